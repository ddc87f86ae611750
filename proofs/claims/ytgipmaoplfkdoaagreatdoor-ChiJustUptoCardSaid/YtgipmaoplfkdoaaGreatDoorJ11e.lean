import Derived.Test.YtgipmaoplfkdoaaGreatDoorJ11a
namespace Go.Proofs.YtgipmaoplfkdoaaGreatDoor.wQ
open Go
theorem aw3:joinedFacts Tryz.pinned.checked.prog 11 Tryz.f11 Rows.chiJustSpec Rows.chiJustUptoRow=true:=by unfold joinedFacts;rw[awZ,aw2,aw1,aw0];kernel_rfl
end Go.Proofs.YtgipmaoplfkdoaaGreatDoor.wQ
