/- solveNil: closed facts of the row, by the kernel. -/
import Derived.Test.YtclljjfkaljdnaaGreatDoorRows
import Derived.Test.YtclljjfkaljdnaaGreatDoorJ3a
import Derived.Test.YtclljjfkaljdnaaGreatDoorJ3b
import Derived.Test.YtclljjfkaljdnaaGreatDoorJ3c
import Derived.Test.YtclljjfkaljdnaaGreatDoorJ3d
import Derived.KernelRfl
import Derived.JoinedOf
namespace Go.Proofs.YtclljjfkaljdnaaGreatDoor.lawSolveNil
open Go
theorem joined : joinedFacts Tryz.pinned.checked.prog 3 Go.Proofs.Tryz.f3 Rows.solveNilSpec Rows.solveNilRow = true := by
  unfold joinedFacts
  rw [jf_inPlace, jf_unfollowed, jf_recurses, jf_named]
  kernel_rfl
end Go.Proofs.YtclljjfkaljdnaaGreatDoor.lawSolveNil
