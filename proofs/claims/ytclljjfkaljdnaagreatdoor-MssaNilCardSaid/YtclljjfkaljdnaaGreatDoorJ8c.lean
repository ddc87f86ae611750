/- mssaNil: closed facts of the row, by the kernel. -/
import Derived.Test.YtclljjfkaljdnaaGreatDoorRows
import Derived.KernelRfl
import Derived.JoinedOf
namespace Go.Proofs.YtclljjfkaljdnaaGreatDoor.lawMssaNil
open Go
theorem jf_recurses : (Rows.mssaNilRow.recurses == Tryz.pinned.checked.prog.recurses 8) = true := by kernel_rfl
end Go.Proofs.YtclljjfkaljdnaaGreatDoor.lawMssaNil
