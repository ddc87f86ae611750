/- This program's tables as constants; from the calculus to the machine at this program. -/
import Derived.Test.YtclljjfkaljdnaaGreatDoorHk
import Derived.Test.YtclljjfkaljdnaaGreatDoorVB
namespace Go.Proofs.YtclljjfkaljdnaaGreatDoor
open Go.RowKit
noncomputable def E0 : Env := match envK Go.Proofs.Tryz.prog plans keys hooks (fun E => (R.ok E : R Env)) with | .ok E => E | .er _ => ⟨.e, .e, .e, .e, .e, .e, 0⟩
noncomputable def H0 : AH := match heapK tab (fun H => (R.ok H : R AH)) with | .ok H => H | .er _ => ⟨0, .e⟩
set_option maxRecDepth 100000 in
theorem env_E0 {β : Type} (k : Env → R β) : envK Go.Proofs.Tryz.prog plans keys hooks k = k E0 := by kernel_rfl
set_option maxRecDepth 100000 in
theorem heap_H0 {β : Type} (k : AH → R β) : heapK tab k = k H0 := by kernel_rfl
/-- What the calculus says of a call is so at this program. -/
theorem run_c {f : FuncId} {args : List AV} {args' : Array Value} {u : Value} (h : C E0 (.call f args) H0 fun v _ => v = .lit u) (ha : ∀ ρ, RlL ρ args args'.toList) (w : World) (ht : TabAt w tab) :
    Calls Go.Proofs.Tryz.prog f args' w fun e w' => e = .returned u ∧ Chg (fun _ => False) w w' :=
  calls_of_C given (env_E0 _) (heap_H0 _) h ha w ht fun E EO hh => hk_ok E w [] EO (fun f n h => by rw [List.map_nil, List.append_nil]; exact hh f n h) (fun f h => by cases h) (fun f h => by cases h)
end Go.Proofs.YtclljjfkaljdnaaGreatDoor
