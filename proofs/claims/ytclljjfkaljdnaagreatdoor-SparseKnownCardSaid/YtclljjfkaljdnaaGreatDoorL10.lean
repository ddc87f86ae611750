/- A closed run, by the evaluator. -/
import Derived.Test.YtclljjfkaljdnaaGreatDoorPT
import Derived.Test.YtclljjfkaljdnaaGreatDoorEC
import Derived.Test.YtclljjfkaljdnaaGreatDoorProg
import Derived.KernelRfl
namespace Go.Proofs.YtclljjfkaljdnaaGreatDoor
set_option maxHeartbeats 1000000000 in
set_option maxRecDepth 100000 in
theorem sparseKnown_run : runKc Go.Proofs.Tryz.prog plans keys hooks tab 1000 10 [] = .ok (.bool true) := by kernel_rfl
end Go.Proofs.YtclljjfkaljdnaaGreatDoor
