/- A closed run, by the evaluator. -/
import Derived.Test.YtclljjfkaljdnaaGreatDoorPT
import Derived.Test.YtclljjfkaljdnaaGreatDoorProg
import Derived.KernelRfl
namespace Go.Proofs.YtclljjfkaljdnaaGreatDoor
set_option maxRecDepth 100000 in
theorem wakes19_run : RunsTrue (runK Go.Proofs.Tryz.prog plans keys (hooks ++ ([] : List Nat).map fun f => (f, 5)) tab 1000 35 []) := RunsTrue.mk (by kernel_rfl)
end Go.Proofs.YtclljjfkaljdnaaGreatDoor
