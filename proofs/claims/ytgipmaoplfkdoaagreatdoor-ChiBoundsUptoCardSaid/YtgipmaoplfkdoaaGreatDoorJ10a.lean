import Derived.Test.YtgipmaoplfkdoaaGreatDoorRows
import Derived.KernelRfl
import Derived.JoinedOf
import Derived.SevenTiedAt
namespace Go.Proofs.YtgipmaoplfkdoaaGreatDoor.wQ
open Go
theorem awZ:(Rows.chiBoundsUptoRow.inPlace==Tryz.pinned.checked.prog.inPlace 10)=true:=by kernel_rfl
theorem aw2:(Rows.chiBoundsUptoRow.unfollowed==Tryz.pinned.checked.prog.unfollowed 10)=true:=by kernel_rfl
theorem aw1:(Rows.chiBoundsUptoRow.recurses==Tryz.pinned.checked.prog.recurses 10)=true:=by kernel_rfl
theorem aw0:(Rows.chiBoundsUptoRow.named==Tryz.pinned.checked.prog.varsNamed 10)=true:=by kernel_rfl
theorem axM:false=Tryz.pinned.checked.prog.looks []:=by kernel_rfl
theorem goes:false=Rows.chiBoundsUptoRow.goesBy Tryz.pinned.checked.prog:=by kernel_rfl
end Go.Proofs.YtgipmaoplfkdoaaGreatDoor.wQ
