import Derived.Test.YtgipmaoplfkdoaaGreatDoorJ10a
namespace Go.Proofs.YtgipmaoplfkdoaaGreatDoor.wQ
open Go
theorem aw3:joinedFacts Tryz.pinned.checked.prog 10 Tryz.f10 Rows.chiBoundsSpec Rows.chiBoundsUptoRow=true:=by unfold joinedFacts;rw[awZ,aw2,aw1,aw0];kernel_rfl
end Go.Proofs.YtgipmaoplfkdoaaGreatDoor.wQ
