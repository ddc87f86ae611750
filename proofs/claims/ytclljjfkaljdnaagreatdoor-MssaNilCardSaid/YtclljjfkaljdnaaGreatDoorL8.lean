/- A closed run, by the evaluator. -/
import Derived.Test.YtclljjfkaljdnaaGreatDoorPT
import Derived.Test.YtclljjfkaljdnaaGreatDoorEC
import Derived.Test.YtclljjfkaljdnaaGreatDoorProg
import Derived.KernelRfl
namespace Go.Proofs.YtclljjfkaljdnaaGreatDoor
set_option maxHeartbeats 1000000000 in
set_option maxRecDepth 100000 in
theorem mssaNil_run (a b c d : Int) : runKc Go.Proofs.Tryz.prog plans keys hooks tab 1000 8 [.agg [.lit (.int .i64 a), .lit (.int .i64 b), .lit (.int .i64 c)], .lit (.int .i64 d)] = .ok (.bool true) := by kernel_rfl
end Go.Proofs.YtclljjfkaljdnaaGreatDoor
