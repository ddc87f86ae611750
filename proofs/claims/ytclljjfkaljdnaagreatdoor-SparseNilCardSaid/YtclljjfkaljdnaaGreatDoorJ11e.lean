/- sparseNil: closed facts of the row, by the kernel. -/
import Derived.Test.YtclljjfkaljdnaaGreatDoorRows
import Derived.Test.YtclljjfkaljdnaaGreatDoorJ11a
import Derived.Test.YtclljjfkaljdnaaGreatDoorJ11b
import Derived.Test.YtclljjfkaljdnaaGreatDoorJ11c
import Derived.Test.YtclljjfkaljdnaaGreatDoorJ11d
import Derived.KernelRfl
import Derived.JoinedOf
namespace Go.Proofs.YtclljjfkaljdnaaGreatDoor.lawSparseNil
open Go
theorem joined : joinedFacts Tryz.pinned.checked.prog 11 Go.Proofs.Tryz.f11 Rows.sparseNilSpec Rows.sparseNilRow = true := by
  unfold joinedFacts
  rw [jf_inPlace, jf_unfollowed, jf_recurses, jf_named]
  kernel_rfl
end Go.Proofs.YtclljjfkaljdnaaGreatDoor.lawSparseNil
