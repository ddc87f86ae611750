/- SparseKnown: whatever the arguments, it returns true, and each argument reads as it did. The one condition: the library's table math/bits.deBruijn64tab lies as the program's text lays it. -/
import Derived.Test.YtclljjfkaljdnaaGreatDoorRp
import Derived.Test.YtclljjfkaljdnaaGreatDoorHc
import Derived.Test.YtclljjfkaljdnaaGreatDoorCards
import Derived.Test.YtclljjfkaljdnaaGreatDoorL10
import Derived.Test.YtclljjfkaljdnaaGreatDoorJ10e
import Derived.Test.YtclljjfkaljdnaaGreatDoorJ10g
import Derived.Test.YtclljjfkaljdnaaGreatDoorJl
import Derived.ProofKit
import Derived.LaidMore
import Derived.OpenShut
import Derived.ChangeOld
import Derived.Stop.Joined
import Derived.SevenTiedAt
namespace Go.Proofs.YtclljjfkaljdnaaGreatDoor.lawSparseKnown
open Go.ChangeShapes Go.WideShapes Go.ChangeAt Go.RowKit

theorem walk (w : World) (ht : TabAt w tab) : Calls Go.Proofs.Tryz.prog 10 #[] w fun e w' => e = .returned (.bool true) ∧ Chg (fun _ => False) w w' :=
  run_true_c (sparseKnown_run) (fun _ => .nil) w ht

set_option maxRecDepth 100000 in
theorem lifted (os : Os) (started : os.Started) (H : Type) (enc : TypeId × Value → H) :
    ReturnsInHanded {} Go.Proofs.Tryz.checked os 10 .any (fun w args => (Rows.sparseKnownSpec.pre enc Go.Proofs.Tryz.prog Go.Proofs.Tryz.f10 [] false w args ∧ laidMetH Go.Proofs.Tryz.prog laid1 w) ∧ sizedMet enc Go.Proofs.Tryz.prog Go.Proofs.Tryz.f10 (OpenSpec.ofChange Rows.sparseKnownSpec) false w args)
      (Rows.sparseKnownSpec.post enc Go.Proofs.Tryz.prog Go.Proofs.Tryz.f10 false true false false) := by
  refine returnsInHanded_of_change_and (C := Go.Proofs.Tryz.checked) (X := fun w _ => laidMetH Go.Proofs.Tryz.prog laid1 w) (fun _ _ _ hh h => h.of_heap hh) own started (by kernel_rfl) Go.Proofs.Tryz.func10
    (ChangeSpec.witness_shaped (enc := enc) (C := Go.Proofs.Tryz.checked) (os := os) (X := fun w _ => laidMetH Go.Proofs.Tryz.prog laid1 w) false (World.doorLaid Go.Proofs.Tryz.prog 4000 os) #[] 8 rfl (World.shaped_of_RefB (by kernel_rfl) (by kernel_rfl)) (by kernel_rfl) (by kernel_rfl) (by kernel_rfl) (door_met os _)) ?_
  intro W base args ds gs before hval0 hW _ _ hL _
  have hval : ∀ (j : Nat) t v, Go.Proofs.Tryz.f10.params[j]? = some t → args[j]? = some v → Value.okWide Go.Proofs.Tryz.prog W .any base t v := hval0
  have hW' := hW
  obtain ⟨p, q, hA0, hV, rfl, hfz, hnd⟩ := hW
  have hA : DataW.TrodAll enc Go.Proofs.Tryz.prog W 0 (fun _ => true) true Go.Proofs.Tryz.f10.params.toList args.toList ds p := hA0
  rw [Go.Proofs.Tryz.params10] at hA hval
  obtain ⟨rfl, rfl, rfl⟩ := trodAll_none hA
  obtain ⟨rfl, rfl⟩ := trodVars_none hV
  clear hA0 hval0
  refine (walk  W (of_laid hL)).mono fun e W' ⟨he, hc⟩ => ?_
  have bel := hc.below
  subst he
  exact ⟨_, rfl, _, _, _, [], _, [], hW', trodAll_mk1 (shut_bool Go.Proofs.Tryz.underlying4 _), trodAll_mk0, rfl, bel.frame _, fun h => by cases h⟩

theorem holds : Rows.SparseKnownSaid :=
  OpenClaim.holds_of_wide 10 Go.Proofs.Tryz.f10 rfl rfl rfl rfl rfl rfl rfl ⟨rfl, rfl, rfl, rfl, rfl⟩ rfl rfl rfl rfl rfl (by kernel_rfl) Go.Proofs.Tryz.func10 joined
    (of_decide_eq_true (by kernel_rfl)) (by unfold Func.isWrapper; first | (rw [if_pos (by decide +kernel)]; kernel_rfl) | (rw [if_neg (by decide +kernel)]; exact ⟨rfl, rfl⟩))
    (fun os started H enc _ => lifted os started H enc)

theorem card : Rows.SparseKnownCardSaid :=
  Claim7.holds_tied_plain_at .later [] [.data] true (true, "8601c3a19fd7b9414215a23257b9cb42c3d4955cdb782de4827c98d1c9db54e8") false
    holds (fun _ h => by cases h) (by kernel_rfl) (fun _ h => by cases h) sparseKnown_row_tie rfl ⟨rfl, rfl⟩ (by kernel_rfl) rfl
    (fun f fn hf hfn => by
      obtain rfl : f = 10 := Option.some.inj ((show Go.Proofs.Tryz.prog.funcNamed "gnomon/gnomonlaw26.SparseKnown" = some 10 by kernel_rfl).symm.trans hf) |>.symm
      obtain rfl : fn = Go.Proofs.Tryz.f10 := (Option.some.inj (Go.Proofs.Tryz.func10.symm.trans hfn)).symm
      exact ⟨looks_none, fun j t ht => by
        rw [Go.Proofs.Tryz.params10] at ht
        have hm : t ∈ [] := by simpa using Array.mem_of_getElem? ht
        have hm3 : t ∈ [3, 23, 67] := (show ∀ u ∈ ([] : List Nat), u ∈ [3, 23, 67] by decide) t hm
        exact (show Tryz.pinned.checked.prog.wantsStandIn t = false by simpa using List.all_eq_true.1 stand_ins t hm3)⟩)
    goes
end Go.Proofs.YtclljjfkaljdnaaGreatDoor.lawSparseKnown
namespace Go.Proofs.YtclljjfkaljdnaaGreatDoor
theorem sparseKnown_card_proved : Rows.SparseKnownCardSaid := lawSparseKnown.card
end Go.Proofs.YtclljjfkaljdnaaGreatDoor
