/- vfgNil: closed facts of the row, by the kernel. -/
import Derived.Test.YtclljjfkaljdnaaGreatDoorRows
import Derived.Test.YtclljjfkaljdnaaGreatDoorJ9a
import Derived.Test.YtclljjfkaljdnaaGreatDoorJ9b
import Derived.Test.YtclljjfkaljdnaaGreatDoorJ9c
import Derived.Test.YtclljjfkaljdnaaGreatDoorJ9d
import Derived.KernelRfl
import Derived.JoinedOf
namespace Go.Proofs.YtclljjfkaljdnaaGreatDoor.lawVfgNil
open Go
theorem joined : joinedFacts Tryz.pinned.checked.prog 9 Go.Proofs.Tryz.f9 Rows.vfgNilSpec Rows.vfgNilRow = true := by
  unfold joinedFacts
  rw [jf_inPlace, jf_unfollowed, jf_recurses, jf_named]
  kernel_rfl
end Go.Proofs.YtclljjfkaljdnaaGreatDoor.lawVfgNil
