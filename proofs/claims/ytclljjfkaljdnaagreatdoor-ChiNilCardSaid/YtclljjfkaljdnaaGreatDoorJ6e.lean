/- chiNil: closed facts of the row, by the kernel. -/
import Derived.Test.YtclljjfkaljdnaaGreatDoorRows
import Derived.Test.YtclljjfkaljdnaaGreatDoorJ6a
import Derived.Test.YtclljjfkaljdnaaGreatDoorJ6b
import Derived.Test.YtclljjfkaljdnaaGreatDoorJ6c
import Derived.Test.YtclljjfkaljdnaaGreatDoorJ6d
import Derived.KernelRfl
import Derived.JoinedOf
namespace Go.Proofs.YtclljjfkaljdnaaGreatDoor.lawChiNil
open Go
theorem joined : joinedFacts Tryz.pinned.checked.prog 6 Go.Proofs.Tryz.f6 Rows.chiNilSpec Rows.chiNilRow = true := by
  unfold joinedFacts
  rw [jf_inPlace, jf_unfollowed, jf_recurses, jf_named]
  kernel_rfl
end Go.Proofs.YtclljjfkaljdnaaGreatDoor.lawChiNil
