import Derived.Test.YtgipmaoplfkdoaaGreatDoorJ3a
namespace Go.Proofs.YtgipmaoplfkdoaaGreatDoor.wQ
open Go
theorem aw3:joinedFacts Tryz.pinned.checked.prog 3 Tryz.f3 Rows.solveFulfilsSpec Rows.solveFulfilsUptoRow=true:=by unfold joinedFacts;rw[awZ,aw2,aw1,aw0];kernel_rfl
end Go.Proofs.YtgipmaoplfkdoaaGreatDoor.wQ
