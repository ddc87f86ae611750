import Derived.Test.YtgipmaoplfkdoaaGreatDoorJ8a
namespace Go.Proofs.YtgipmaoplfkdoaaGreatDoor.wQ
open Go
theorem aw3:joinedFacts Tryz.pinned.checked.prog 8 Tryz.f8 Rows.modrefCallsSpec Rows.modrefCallsUptoRow=true:=by unfold joinedFacts;rw[awZ,aw2,aw1,aw0];kernel_rfl
end Go.Proofs.YtgipmaoplfkdoaaGreatDoor.wQ
