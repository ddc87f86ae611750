/- MssaNil: whatever the arguments, it returns true, and each argument reads as it did. The one condition: the library's table math/bits.deBruijn64tab lies as the program's text lays it. -/
import Derived.Test.YtclljjfkaljdnaaGreatDoorRp
import Derived.Test.YtclljjfkaljdnaaGreatDoorHc
import Derived.Test.YtclljjfkaljdnaaGreatDoorCards
import Derived.Test.YtclljjfkaljdnaaGreatDoorL8
import Derived.Test.YtclljjfkaljdnaaGreatDoorJ8e
import Derived.Test.YtclljjfkaljdnaaGreatDoorJ8g
import Derived.Test.YtclljjfkaljdnaaGreatDoorJl
import Derived.ProofKit
import Derived.LaidMore
import Derived.OpenShut
import Derived.ChangeOld
import Derived.Stop.Joined
import Derived.SevenTiedAt
namespace Go.Proofs.YtclljjfkaljdnaaGreatDoor.lawMssaNil
open Go.ChangeShapes Go.WideShapes Go.ChangeAt Go.RowKit

theorem walk (a b c d : Int) (w : World) (ht : TabAt w tab) : Calls Go.Proofs.Tryz.prog 8 #[.agg #[.int .i64 a, .int .i64 b, .int .i64 c], .int .i64 d] w fun e w' => e = .returned (.bool true) ∧ Chg (fun _ => False) w w' :=
  run_true_c (mssaNil_run a b c d) (fun _ => (.cons (.agg (.cons (.lit _) (.cons (.lit _) (.cons (.lit _) .nil)))) (.cons (.lit _) .nil))) w ht

set_option maxRecDepth 100000 in
theorem lifted (os : Os) (started : os.Started) (H : Type) (enc : TypeId × Value → H) :
    ReturnsInHanded {} Go.Proofs.Tryz.checked os 8 .any (fun w args => (Rows.mssaNilSpec.pre enc Go.Proofs.Tryz.prog Go.Proofs.Tryz.f8 [] false w args ∧ laidMetH Go.Proofs.Tryz.prog laid1 w) ∧ sizedMet enc Go.Proofs.Tryz.prog Go.Proofs.Tryz.f8 (OpenSpec.ofChange Rows.mssaNilSpec) false w args)
      (Rows.mssaNilSpec.post enc Go.Proofs.Tryz.prog Go.Proofs.Tryz.f8 false true false false) := by
  refine returnsInHanded_of_change_and (C := Go.Proofs.Tryz.checked) (X := fun w _ => laidMetH Go.Proofs.Tryz.prog laid1 w) (fun _ _ _ hh h => h.of_heap hh) own started (by kernel_rfl) Go.Proofs.Tryz.func8
    (ChangeSpec.witness_shaped (enc := enc) (C := Go.Proofs.Tryz.checked) (os := os) (X := fun w _ => laidMetH Go.Proofs.Tryz.prog laid1 w) false (World.doorLaid Go.Proofs.Tryz.prog 4000 os) #[.agg #[.int .i64 0, .int .i64 0, .int .i64 0], .int .i64 0] 8 rfl (World.shaped_of_RefB (by kernel_rfl) (by kernel_rfl)) (by kernel_rfl) (by kernel_rfl) (by kernel_rfl) (door_met os _)) ?_
  intro W base args ds gs before hval0 hW _ _ hL _
  have hval : ∀ (j : Nat) t v, Go.Proofs.Tryz.f8.params[j]? = some t → args[j]? = some v → Value.okWide Go.Proofs.Tryz.prog W .any base t v := hval0
  have hW' := hW
  obtain ⟨p, q, hA0, hV, rfl, hfz, hnd⟩ := hW
  have hA : DataW.TrodAll enc Go.Proofs.Tryz.prog W 0 (fun _ => true) true Go.Proofs.Tryz.f8.params.toList args.toList ds p := hA0
  rw [Go.Proofs.Tryz.params8] at hA hval
  obtain ⟨v0, vs0, d0, ds0, p0, q0, hargs, rfl, rfl, h0, r0⟩ := trodAll_cons hA
  obtain ⟨v1, vs1, d1, ds1, p1, q1, rfl, rfl, rfl, h1, r1⟩ := trodAll_cons r0
  obtain ⟨rfl, rfl, rfl⟩ := trodAll_nil r1
  obtain rfl : args = #[v0, v1] := by cases args; simp_all
  obtain ⟨rfl, rfl⟩ := trodVars_none hV
  have o0 := hval 0 23 v0 rfl rfl
  have lt0 : ∀ x ∈ p0, x.block < W.heap.size := by obtain ⟨m, hm⟩ := h0; exact DataW.trod_lt m _ _ _ hm
  have o1 := hval 1 3 v1 rfl rfl
  have lt1 : ∀ x ∈ p1, x.block < W.heap.size := by obtain ⟨m, hm⟩ := h1; exact DataW.trod_lt m _ _ _ hm
  obtain ⟨a, b, c, rfl⟩ := rd_pt o0 h0
  obtain ⟨d, rfl⟩ := rd_int o1 h1
  clear hA0 hval0
  refine (walk a b c d W (of_laid hL)).mono fun e W' ⟨he, hc⟩ => ?_
  have bel := hc.below
  subst he
  exact ⟨_, rfl, _, _, _, [], _, [], hW', trodAll_mk1 (shut_bool Go.Proofs.Tryz.underlying4 _), (trodAll_cons_mk (Below.trod laidOut (by kernel_rfl) (of_decide_eq_true (by kernel_rfl)) h0 bel lt0) (trodAll_cons_mk (Below.trod laidOut (by kernel_rfl) (of_decide_eq_true (by kernel_rfl)) h1 bel lt1) trodAll_mk0)), rfl, bel.frame _, fun h => by cases h⟩

theorem holds : Rows.MssaNilSaid :=
  OpenClaim.holds_of_wide 8 Go.Proofs.Tryz.f8 rfl rfl rfl rfl rfl rfl rfl ⟨rfl, rfl, rfl, rfl, rfl⟩ rfl rfl rfl rfl rfl (by kernel_rfl) Go.Proofs.Tryz.func8 joined
    (of_decide_eq_true (by kernel_rfl)) (by unfold Func.isWrapper; first | (rw [if_pos (by decide +kernel)]; kernel_rfl) | (rw [if_neg (by decide +kernel)]; exact ⟨rfl, rfl⟩))
    (fun os started H enc _ => lifted os started H enc)

theorem card : Rows.MssaNilCardSaid :=
  Claim7.holds_tied_plain_at .later [] [.data] true (true, "8601c3a19fd7b9414215a23257b9cb42c3d4955cdb782de4827c98d1c9db54e8") false
    holds (fun _ h => by cases h) (by kernel_rfl) (fun _ h => by cases h) mssaNil_row_tie rfl ⟨rfl, rfl⟩ (by kernel_rfl) rfl
    (fun f fn hf hfn => by
      obtain rfl : f = 8 := Option.some.inj ((show Go.Proofs.Tryz.prog.funcNamed "gnomon/gnomonlaw22.MssaNil" = some 8 by kernel_rfl).symm.trans hf) |>.symm
      obtain rfl : fn = Go.Proofs.Tryz.f8 := (Option.some.inj (Go.Proofs.Tryz.func8.symm.trans hfn)).symm
      exact ⟨looks_none, fun j t ht => by
        rw [Go.Proofs.Tryz.params8] at ht
        have hm : t ∈ [23, 3] := by simpa using Array.mem_of_getElem? ht
        have hm3 : t ∈ [3, 23, 67] := (show ∀ u ∈ ([23, 3] : List Nat), u ∈ [3, 23, 67] by decide) t hm
        exact (show Tryz.pinned.checked.prog.wantsStandIn t = false by simpa using List.all_eq_true.1 stand_ins t hm3)⟩)
    goes
end Go.Proofs.YtclljjfkaljdnaaGreatDoor.lawMssaNil
namespace Go.Proofs.YtclljjfkaljdnaaGreatDoor
theorem mssaNil_card_proved : Rows.MssaNilCardSaid := lawMssaNil.card
end Go.Proofs.YtclljjfkaljdnaaGreatDoor
