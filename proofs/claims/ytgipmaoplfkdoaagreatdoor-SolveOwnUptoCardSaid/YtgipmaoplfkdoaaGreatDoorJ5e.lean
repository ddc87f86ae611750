import Derived.Test.YtgipmaoplfkdoaaGreatDoorJ5a
namespace Go.Proofs.YtgipmaoplfkdoaaGreatDoor.wQ
open Go
theorem aw3:joinedFacts Tryz.pinned.checked.prog 5 Tryz.f5 Rows.solveOwnSpec Rows.solveOwnUptoRow=true:=by unfold joinedFacts;rw[awZ,aw2,aw1,aw0];kernel_rfl
end Go.Proofs.YtgipmaoplfkdoaaGreatDoor.wQ
