/- sparseKnown: closed facts of the row, by the kernel. -/
import Derived.Test.YtclljjfkaljdnaaGreatDoorRows
import Derived.KernelRfl
import Derived.JoinedOf
namespace Go.Proofs.YtclljjfkaljdnaaGreatDoor.lawSparseKnown
open Go
theorem jf_unfollowed : (Rows.sparseKnownRow.unfollowed == Tryz.pinned.checked.prog.unfollowed 10) = true := by kernel_rfl
end Go.Proofs.YtclljjfkaljdnaaGreatDoor.lawSparseKnown
