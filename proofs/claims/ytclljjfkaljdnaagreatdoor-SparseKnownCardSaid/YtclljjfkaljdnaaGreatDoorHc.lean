/- Closed runs at this program, in continuation style. -/
import Derived.Test.YtclljjfkaljdnaaGreatDoorHk
import Derived.Test.YtclljjfkaljdnaaGreatDoorEK
namespace Go.Proofs.YtclljjfkaljdnaaGreatDoor
open Go.RowKit
theorem run_true_c {fuel : Nat} {f : FuncId} {args : List AV} {args' : Array Value} (hr : runKc Go.Proofs.Tryz.prog plans keys hooks tab fuel f args = .ok (.bool true)) (ha : ∀ ρ, RlL ρ args args'.toList) (w : World) (ht : TabAt w tab) :
    Calls Go.Proofs.Tryz.prog f args' w fun e w' => e = .returned (.bool true) ∧ Chg (fun _ => False) w w' :=
  closed_runc (fuel := fuel) given hr ha w ht fun E EO hh => hk_ok E w [] EO (fun f n h => by rw [List.map_nil, List.append_nil]; exact hh f n h) (fun f h => by cases h) (fun f h => by cases h)
end Go.Proofs.YtclljjfkaljdnaaGreatDoor
