import Derived.Test.YtgipmaoplfkdoaaGreatDoorRows
import Derived.KernelRfl
import Derived.JoinedOf
import Derived.SevenTiedAt
namespace Go.Proofs.YtgipmaoplfkdoaaGreatDoor.wQ
open Go
theorem awZ:(Rows.modrefNeedUptoRow.inPlace==Tryz.pinned.checked.prog.inPlace 9)=true:=by kernel_rfl
theorem aw2:(Rows.modrefNeedUptoRow.unfollowed==Tryz.pinned.checked.prog.unfollowed 9)=true:=by kernel_rfl
theorem aw1:(Rows.modrefNeedUptoRow.recurses==Tryz.pinned.checked.prog.recurses 9)=true:=by kernel_rfl
theorem aw0:(Rows.modrefNeedUptoRow.named==Tryz.pinned.checked.prog.varsNamed 9)=true:=by kernel_rfl
theorem axM:false=Tryz.pinned.checked.prog.looks []:=by kernel_rfl
theorem goes:false=Rows.modrefNeedUptoRow.goesBy Tryz.pinned.checked.prog:=by kernel_rfl
end Go.Proofs.YtgipmaoplfkdoaaGreatDoor.wQ
