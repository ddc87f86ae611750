/- vfgNil: closed facts of the row, by the kernel. -/
import Derived.Test.YtclljjfkaljdnaaGreatDoorRows
import Derived.KernelRfl
import Derived.JoinedOf
namespace Go.Proofs.YtclljjfkaljdnaaGreatDoor.lawVfgNil
open Go
theorem jf_recurses : (Rows.vfgNilRow.recurses == Tryz.pinned.checked.prog.recurses 9) = true := by kernel_rfl
end Go.Proofs.YtclljjfkaljdnaaGreatDoor.lawVfgNil
