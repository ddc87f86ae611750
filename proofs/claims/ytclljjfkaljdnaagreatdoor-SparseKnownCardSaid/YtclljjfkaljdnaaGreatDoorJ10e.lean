/- sparseKnown: closed facts of the row, by the kernel. -/
import Derived.Test.YtclljjfkaljdnaaGreatDoorRows
import Derived.Test.YtclljjfkaljdnaaGreatDoorJ10a
import Derived.Test.YtclljjfkaljdnaaGreatDoorJ10b
import Derived.Test.YtclljjfkaljdnaaGreatDoorJ10c
import Derived.Test.YtclljjfkaljdnaaGreatDoorJ10d
import Derived.KernelRfl
import Derived.JoinedOf
namespace Go.Proofs.YtclljjfkaljdnaaGreatDoor.lawSparseKnown
open Go
theorem joined : joinedFacts Tryz.pinned.checked.prog 10 Go.Proofs.Tryz.f10 Rows.sparseKnownSpec Rows.sparseKnownRow = true := by
  unfold joinedFacts
  rw [jf_inPlace, jf_unfollowed, jf_recurses, jf_named]
  kernel_rfl
end Go.Proofs.YtclljjfkaljdnaaGreatDoor.lawSparseKnown
