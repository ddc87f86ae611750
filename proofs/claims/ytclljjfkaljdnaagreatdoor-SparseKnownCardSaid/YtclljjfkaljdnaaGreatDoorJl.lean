/- A closed fact of the program, by the kernel. -/
import Derived.Test.YtclljjfkaljdnaaGreatDoorRows
import Derived.KernelRfl
import Derived.SevenTiedAt
namespace Go.Proofs.YtclljjfkaljdnaaGreatDoor
open Go
theorem looks_none : false = Tryz.pinned.checked.prog.looks [] := by kernel_rfl
theorem stand_ins : ([3, 23, 67].all fun u => !Tryz.pinned.checked.prog.wantsStandIn u) = true := by kernel_rfl
end Go.Proofs.YtclljjfkaljdnaaGreatDoor
