import Derived.Test.YtgipmaoplfkdoaaGreatDoorRows
import Derived.KernelRfl
import Derived.JoinedOf
import Derived.SevenTiedAt
namespace Go.Proofs.YtgipmaoplfkdoaaGreatDoor.wQ
open Go
theorem awZ:(Rows.solveOwnUptoRow.inPlace==Tryz.pinned.checked.prog.inPlace 5)=true:=by kernel_rfl
theorem aw2:(Rows.solveOwnUptoRow.unfollowed==Tryz.pinned.checked.prog.unfollowed 5)=true:=by kernel_rfl
theorem aw1:(Rows.solveOwnUptoRow.recurses==Tryz.pinned.checked.prog.recurses 5)=true:=by kernel_rfl
theorem aw0:(Rows.solveOwnUptoRow.named==Tryz.pinned.checked.prog.varsNamed 5)=true:=by kernel_rfl
theorem axM:false=Tryz.pinned.checked.prog.looks []:=by kernel_rfl
theorem goes:false=Rows.solveOwnUptoRow.goesBy Tryz.pinned.checked.prog:=by kernel_rfl
end Go.Proofs.YtgipmaoplfkdoaaGreatDoor.wQ
