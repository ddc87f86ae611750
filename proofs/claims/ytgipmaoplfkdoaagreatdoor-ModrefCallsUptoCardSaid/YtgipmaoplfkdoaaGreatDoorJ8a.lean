import Derived.Test.YtgipmaoplfkdoaaGreatDoorRows
import Derived.KernelRfl
import Derived.JoinedOf
import Derived.SevenTiedAt
namespace Go.Proofs.YtgipmaoplfkdoaaGreatDoor.wQ
open Go
theorem awZ:(Rows.modrefCallsUptoRow.inPlace==Tryz.pinned.checked.prog.inPlace 8)=true:=by kernel_rfl
theorem aw2:(Rows.modrefCallsUptoRow.unfollowed==Tryz.pinned.checked.prog.unfollowed 8)=true:=by kernel_rfl
theorem aw1:(Rows.modrefCallsUptoRow.recurses==Tryz.pinned.checked.prog.recurses 8)=true:=by kernel_rfl
theorem aw0:(Rows.modrefCallsUptoRow.named==Tryz.pinned.checked.prog.varsNamed 8)=true:=by kernel_rfl
theorem axM:false=Tryz.pinned.checked.prog.looks []:=by kernel_rfl
theorem goes:false=Rows.modrefCallsUptoRow.goesBy Tryz.pinned.checked.prog:=by kernel_rfl
end Go.Proofs.YtgipmaoplfkdoaaGreatDoor.wQ
