import Derived.Test.YtgipmaoplfkdoaaGreatDoorM2
namespace Go.Proofs.YtgipmaoplfkdoaaGreatDoor
set_option maxRecDepth 100000 in
theorem aGz:Ar (runK Tryz.prog wU keys (yg++([]:List Nat).map λ f=>(f,5)) g_ 1000 58 []):=Ar.mk (by kernel_rfl)
end Go.Proofs.YtgipmaoplfkdoaaGreatDoor
