/- sparseKnown: closed facts of the row, by the kernel. -/
import Derived.Test.YtclljjfkaljdnaaGreatDoorRows
import Derived.KernelRfl
import Derived.SevenTiedAt
namespace Go.Proofs.YtclljjfkaljdnaaGreatDoor.lawSparseKnown
open Go
theorem goes : false = Rows.sparseKnownRow.goesBy Tryz.pinned.checked.prog := by kernel_rfl
end Go.Proofs.YtclljjfkaljdnaaGreatDoor.lawSparseKnown
