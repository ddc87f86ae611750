import Derived.Test.YtgipmaoplfkdoaaGreatDoorRows
import Derived.KernelRfl
import Derived.JoinedOf
import Derived.SevenTiedAt
namespace Go.Proofs.YtgipmaoplfkdoaaGreatDoor.wQ
open Go
theorem awZ:(Rows.callsChainUptoRow.inPlace==Tryz.pinned.checked.prog.inPlace 6)=true:=by kernel_rfl
theorem aw2:(Rows.callsChainUptoRow.unfollowed==Tryz.pinned.checked.prog.unfollowed 6)=true:=by kernel_rfl
theorem aw1:(Rows.callsChainUptoRow.recurses==Tryz.pinned.checked.prog.recurses 6)=true:=by kernel_rfl
theorem aw0:(Rows.callsChainUptoRow.named==Tryz.pinned.checked.prog.varsNamed 6)=true:=by kernel_rfl
theorem axM:false=Tryz.pinned.checked.prog.looks []:=by kernel_rfl
theorem goes:false=Rows.callsChainUptoRow.goesBy Tryz.pinned.checked.prog:=by kernel_rfl
end Go.Proofs.YtgipmaoplfkdoaaGreatDoor.wQ
