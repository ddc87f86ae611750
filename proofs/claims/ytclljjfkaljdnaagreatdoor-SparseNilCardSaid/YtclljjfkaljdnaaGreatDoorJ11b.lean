/- sparseNil: closed facts of the row, by the kernel. -/
import Derived.Test.YtclljjfkaljdnaaGreatDoorRows
import Derived.KernelRfl
import Derived.JoinedOf
namespace Go.Proofs.YtclljjfkaljdnaaGreatDoor.lawSparseNil
open Go
theorem jf_unfollowed : (Rows.sparseNilRow.unfollowed == Tryz.pinned.checked.prog.unfollowed 11) = true := by kernel_rfl
end Go.Proofs.YtclljjfkaljdnaaGreatDoor.lawSparseNil
