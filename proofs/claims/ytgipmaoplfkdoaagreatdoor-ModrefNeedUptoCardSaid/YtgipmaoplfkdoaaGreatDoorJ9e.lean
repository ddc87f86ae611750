import Derived.Test.YtgipmaoplfkdoaaGreatDoorJ9a
namespace Go.Proofs.YtgipmaoplfkdoaaGreatDoor.wQ
open Go
theorem aw3:joinedFacts Tryz.pinned.checked.prog 9 Tryz.f9 Rows.modrefNeedSpec Rows.modrefNeedUptoRow=true:=by unfold joinedFacts;rw[awZ,aw2,aw1,aw0];kernel_rfl
end Go.Proofs.YtgipmaoplfkdoaaGreatDoor.wQ
