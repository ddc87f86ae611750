/- A closed run, by the evaluator. -/
import Derived.Test.YtclljjfkaljdnaaGreatDoorPT
import Derived.Test.YtclljjfkaljdnaaGreatDoorEC
import Derived.Test.YtclljjfkaljdnaaGreatDoorProg
import Derived.KernelRfl
namespace Go.Proofs.YtclljjfkaljdnaaGreatDoor
set_option maxHeartbeats 1000000000 in
set_option maxRecDepth 100000 in
theorem vfgNil_runC (n : Nat) (b c d e f g h i j : Int) : runKc Go.Proofs.Tryz.prog plans keys hooks tab 1000 9 [.lit (.int .i64 (Int.negSucc (Nat.succ n))), .agg [.lit (.int .u8 b), .lit (.int .i64 c), .lit (.int .i64 d), .lit (.int .i64 e), .lit (.int .i64 f), .lit (.int .i64 g)], .agg [.lit (.int .i64 h), .lit (.int .i64 i), .lit (.int .i64 j)]] = .ok (.bool true) := by kernel_rfl
end Go.Proofs.YtclljjfkaljdnaaGreatDoor
