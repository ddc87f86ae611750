/- A closed run, by the evaluator: what is known, its map, and that it wakes. -/
import Derived.Test.YtclljjfkaljdnaaGreatDoorPT
import Derived.Test.YtclljjfkaljdnaaGreatDoorEC
import Derived.Test.YtclljjfkaljdnaaGreatDoorProg
import Derived.KernelRfl
namespace Go.Proofs.YtclljjfkaljdnaaGreatDoor
noncomputable def sparseEnd (E : Env) (t : Tr AV) (r : AV) (H2 : AH) : R (Value × AO) :=
  match r with
  | .tup [.ptr _ _, _] => objK H2 1 fun o => newK H2 (.cells 3 t false) fun _ H3 => newK H3 (.cells 3 t false) fun _ H4 => goKc E 1000 (.call 73 []) H4 fun v _ => match v with | .lit u => .ok (u, o) | _ => .er [998]
  | _ => .er [999]
noncomputable def sparseMid (E : Env) (t : Tr AV) (v : AV) (H1 : AH) : R (Value × AO) := goKc E 1000 (.call 20 [v]) H1 (sparseEnd E t)
set_option maxHeartbeats 1000000000 in
set_option maxRecDepth 100000 in
theorem sparseNil_run (a b c : Int) : (envK Go.Proofs.Tryz.prog plans keys hooks fun E => heapK tab fun H => writeK .e 0 [.lit (.int .i64 a), .lit (.int .i64 b), .lit (.int .i64 c)] fun t => newK H (.cells 3 t false) fun _ H =>
    goKc E 1000 (.call 74 []) H (sparseMid E t) : R (Value × AO)) = .ok (.bool true, .cells 3 (.n (some (.lit (.int .i64 a))) (.n (some (.lit (.int .i64 b))) .e .e) (.n (some (.lit (.int .i64 c))) .e .e)) false) := by kernel_rfl
end Go.Proofs.YtclljjfkaljdnaaGreatDoor
