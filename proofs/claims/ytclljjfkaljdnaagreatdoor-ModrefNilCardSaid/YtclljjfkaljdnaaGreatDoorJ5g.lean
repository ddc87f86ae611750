/- modrefNil: closed facts of the row, by the kernel. -/
import Derived.Test.YtclljjfkaljdnaaGreatDoorRows
import Derived.KernelRfl
import Derived.SevenTiedAt
namespace Go.Proofs.YtclljjfkaljdnaaGreatDoor.lawModrefNil
open Go
theorem goes : false = Rows.modrefNilRow.goesBy Tryz.pinned.checked.prog := by kernel_rfl
end Go.Proofs.YtclljjfkaljdnaaGreatDoor.lawModrefNil
