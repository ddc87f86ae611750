/- modrefNil: closed facts of the row, by the kernel. -/
import Derived.Test.YtclljjfkaljdnaaGreatDoorRows
import Derived.Test.YtclljjfkaljdnaaGreatDoorJ5a
import Derived.Test.YtclljjfkaljdnaaGreatDoorJ5b
import Derived.Test.YtclljjfkaljdnaaGreatDoorJ5c
import Derived.Test.YtclljjfkaljdnaaGreatDoorJ5d
import Derived.KernelRfl
import Derived.JoinedOf
namespace Go.Proofs.YtclljjfkaljdnaaGreatDoor.lawModrefNil
open Go
theorem joined : joinedFacts Tryz.pinned.checked.prog 5 Go.Proofs.Tryz.f5 Rows.modrefNilSpec Rows.modrefNilRow = true := by
  unfold joinedFacts
  rw [jf_inPlace, jf_unfollowed, jf_recurses, jf_named]
  kernel_rfl
end Go.Proofs.YtclljjfkaljdnaaGreatDoor.lawModrefNil
