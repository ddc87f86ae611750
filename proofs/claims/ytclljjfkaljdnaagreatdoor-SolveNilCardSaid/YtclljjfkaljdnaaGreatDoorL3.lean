/- A closed run, by the evaluator: what is known wakes, beside two points. -/
import Derived.Test.YtclljjfkaljdnaaGreatDoorPT
import Derived.Test.YtclljjfkaljdnaaGreatDoorEC
import Derived.Test.YtclljjfkaljdnaaGreatDoorProg
import Derived.KernelRfl
namespace Go.Proofs.YtclljjfkaljdnaaGreatDoor
set_option maxHeartbeats 1000000000 in
set_option maxRecDepth 100000 in
theorem solveNil_run (a b c : Int) : (envK Go.Proofs.Tryz.prog plans keys hooks fun E => heapK tab fun H => writeK .e 0 [.lit (.int .i64 a), .lit (.int .i64 b), .lit (.int .i64 c)] fun t => newK H (.cells 3 t false) fun _ H => newK H (.cells 3 t false) fun _ H =>
    goKc E 1000 (.call 19 []) H lastK : R Value) = .ok (.bool true) := by kernel_rfl
end Go.Proofs.YtclljjfkaljdnaaGreatDoor
