/- A closed run, by the evaluator. -/
import Derived.Test.YtclljjfkaljdnaaGreatDoorPT
import Derived.Test.YtclljjfkaljdnaaGreatDoorProg
import Derived.KernelRfl
namespace Go.Proofs.YtclljjfkaljdnaaGreatDoor
set_option maxRecDepth 100000 in
theorem callsNil_run (a b c d : Int) : RunsTrue (runK Go.Proofs.Tryz.prog plans keys (hooks ++ ([29] : List Nat).map fun f => (f, 5)) tab 1000 4 [.lit (.int .i64 a), .agg [.lit (.int .i64 b), .lit (.int .i64 c), .lit (.int .i64 d)]]) := RunsTrue.mk (by kernel_rfl)
end Go.Proofs.YtclljjfkaljdnaaGreatDoor
