/- SparseNil: whatever the arguments, it returns true, and each argument reads as it did. The one condition: the library's table math/bits.deBruijn64tab lies as the program's text lays it. -/
import Derived.Test.YtclljjfkaljdnaaGreatDoorRr
import Derived.Test.YtclljjfkaljdnaaGreatDoorN12
import Derived.Test.YtclljjfkaljdnaaGreatDoorCards
import Derived.Test.YtclljjfkaljdnaaGreatDoorL11
import Derived.Test.YtclljjfkaljdnaaGreatDoorJ11e
import Derived.Test.YtclljjfkaljdnaaGreatDoorJ11g
import Derived.Test.YtclljjfkaljdnaaGreatDoorJl
import Derived.ProofKit
import Derived.LaidMore
import Derived.OpenShut
import Derived.ChangeOld
import Derived.Stop.Joined
import Derived.SevenTiedAt
namespace Go.Proofs.YtclljjfkaljdnaaGreatDoor.lawSparseNil
open Go.ChangeShapes Go.WideShapes Go.ChangeAt Go.RowKit

theorem walk (a b c d e f : Int) (hr : -9223372036854775808 ≤ c ∧ c ≤ 9223372036854775807) (w : World) (ht : TabAt w tab) : Calls Go.Proofs.Tryz.prog 11 #[.int .i64 a, .int .i64 b, .int .i64 c, .agg #[.int .i64 d, .int .i64 e, .int .i64 f]] w fun e w' => e = .returned (.bool true) ∧ Chg (fun _ => False) w w' := by
  refine run_c (sparse_c a b c d e f H0 hr ?_) (fun _ => (.cons (.lit _) (.cons (.lit _) (.cons (.lit _) (.cons (.agg (.cons (.lit _) (.cons (.lit _) (.cons (.lit _) .nil)))) .nil))))) w ht
  have h := sparseNil_run d e f
  simp only [env_E0, heap_H0, writeK_puts, newK_add] at h
  have hn : H0.next = 1 := by kernel_rfl
  refine (C_of_run h).mono fun v1 H1 h1 => ?_
  unfold sparseMid at h1
  refine (C_of_run h1).mono fun r H2 h2 => ?_
  unfold sparseEnd at h2
  split at h2
  · rename_i i oo x
    rw [objK_get] at h2
    cases hg : H2.get 1 with
    | none => rw [hg] at h2; cases h2
    | some o =>
      rw [hg] at h2
      simp only [newK_add] at h2
      have hend : ∀ (v : AV) (H : AH), (match v with | .lit u => (R.ok (u, o) : R (Value × AO)) | _ => .er [998]) = .ok (.bool true, .cells 3 (.n (some (.lit (.int .i64 d))) (.n (some (.lit (.int .i64 e))) .e .e) (.n (some (.lit (.int .i64 f))) .e .e)) false) → v = .lit (.bool true) ∧ o = pt d e f := by
        intro v H h
        cases v with
        | lit u => cases h; exact ⟨rfl, rfl⟩
        | _ => cases h
      have hc := C_of_run h2
      obtain ⟨_, _, _, _, h9⟩ := hc
      refine ⟨i, oo, x, rfl, ?_, (C_of_run h2).mono fun v H' h3 => (hend v H' h3).1⟩
      rw [hn, hg, (hend _ H2 h9).2]
  · cases h2

set_option maxRecDepth 100000 in
theorem lifted (os : Os) (started : os.Started) (H : Type) (enc : TypeId × Value → H) :
    ReturnsInHanded {} Go.Proofs.Tryz.checked os 11 .any (fun w args => (Rows.sparseNilSpec.pre enc Go.Proofs.Tryz.prog Go.Proofs.Tryz.f11 [] false w args ∧ laidMetH Go.Proofs.Tryz.prog laid1 w) ∧ sizedMet enc Go.Proofs.Tryz.prog Go.Proofs.Tryz.f11 (OpenSpec.ofChange Rows.sparseNilSpec) false w args)
      (Rows.sparseNilSpec.post enc Go.Proofs.Tryz.prog Go.Proofs.Tryz.f11 false true false false) := by
  refine returnsInHanded_of_change_and (C := Go.Proofs.Tryz.checked) (X := fun w _ => laidMetH Go.Proofs.Tryz.prog laid1 w) (fun _ _ _ hh h => h.of_heap hh) own started (by kernel_rfl) Go.Proofs.Tryz.func11
    (ChangeSpec.witness_shaped (enc := enc) (C := Go.Proofs.Tryz.checked) (os := os) (X := fun w _ => laidMetH Go.Proofs.Tryz.prog laid1 w) false (World.doorLaid Go.Proofs.Tryz.prog 4000 os) #[.int .i64 0, .int .i64 0, .int .i64 0, .agg #[.int .i64 0, .int .i64 0, .int .i64 0]] 8 rfl (World.shaped_of_RefB (by kernel_rfl) (by kernel_rfl)) (by kernel_rfl) (by kernel_rfl) (by kernel_rfl) (door_met os _)) ?_
  intro W base args ds gs before hval0 hW _ _ hL _
  have hval : ∀ (j : Nat) t v, Go.Proofs.Tryz.f11.params[j]? = some t → args[j]? = some v → Value.okWide Go.Proofs.Tryz.prog W .any base t v := hval0
  have hW' := hW
  obtain ⟨p, q, hA0, hV, rfl, hfz, hnd⟩ := hW
  have hA : DataW.TrodAll enc Go.Proofs.Tryz.prog W 0 (fun _ => true) true Go.Proofs.Tryz.f11.params.toList args.toList ds p := hA0
  rw [Go.Proofs.Tryz.params11] at hA hval
  obtain ⟨v0, vs0, d0, ds0, p0, q0, hargs, rfl, rfl, h0, r0⟩ := trodAll_cons hA
  obtain ⟨v1, vs1, d1, ds1, p1, q1, rfl, rfl, rfl, h1, r1⟩ := trodAll_cons r0
  obtain ⟨v2, vs2, d2, ds2, p2, q2, rfl, rfl, rfl, h2, r2⟩ := trodAll_cons r1
  obtain ⟨v3, vs3, d3, ds3, p3, q3, rfl, rfl, rfl, h3, r3⟩ := trodAll_cons r2
  obtain ⟨rfl, rfl, rfl⟩ := trodAll_nil r3
  obtain rfl : args = #[v0, v1, v2, v3] := by cases args; simp_all
  obtain ⟨rfl, rfl⟩ := trodVars_none hV
  have o0 := hval 0 3 v0 rfl rfl
  have lt0 : ∀ x ∈ p0, x.block < W.heap.size := by obtain ⟨m, hm⟩ := h0; exact DataW.trod_lt m _ _ _ hm
  have o1 := hval 1 3 v1 rfl rfl
  have lt1 : ∀ x ∈ p1, x.block < W.heap.size := by obtain ⟨m, hm⟩ := h1; exact DataW.trod_lt m _ _ _ hm
  have o2 := hval 2 3 v2 rfl rfl
  have lt2 : ∀ x ∈ p2, x.block < W.heap.size := by obtain ⟨m, hm⟩ := h2; exact DataW.trod_lt m _ _ _ hm
  have o3 := hval 3 23 v3 rfl rfl
  have lt3 : ∀ x ∈ p3, x.block < W.heap.size := by obtain ⟨m, hm⟩ := h3; exact DataW.trod_lt m _ _ _ hm
  obtain ⟨a, rfl⟩ := rd_int o0 h0
  obtain ⟨b, rfl⟩ := rd_int o1 h1
  obtain ⟨c, rfl, hc1, hc2⟩ := rd_range o2 h2
  obtain ⟨d, e, f, rfl⟩ := rd_pt o3 h3
  clear hA0 hval0
  refine (walk a b c d e f ⟨hc1, hc2⟩ W (of_laid hL)).mono fun e W' ⟨he, hc⟩ => ?_
  have bel := hc.below
  subst he
  exact ⟨_, rfl, _, _, _, [], _, [], hW', trodAll_mk1 (shut_bool Go.Proofs.Tryz.underlying4 _), (trodAll_cons_mk (Below.trod laidOut (by kernel_rfl) (of_decide_eq_true (by kernel_rfl)) h0 bel lt0) (trodAll_cons_mk (Below.trod laidOut (by kernel_rfl) (of_decide_eq_true (by kernel_rfl)) h1 bel lt1) (trodAll_cons_mk (Below.trod laidOut (by kernel_rfl) (of_decide_eq_true (by kernel_rfl)) h2 bel lt2) (trodAll_cons_mk (Below.trod laidOut (by kernel_rfl) (of_decide_eq_true (by kernel_rfl)) h3 bel lt3) trodAll_mk0)))), rfl, bel.frame _, fun h => by cases h⟩

theorem holds : Rows.SparseNilSaid :=
  OpenClaim.holds_of_wide 11 Go.Proofs.Tryz.f11 rfl rfl rfl rfl rfl rfl rfl ⟨rfl, rfl, rfl, rfl, rfl⟩ rfl rfl rfl rfl rfl (by kernel_rfl) Go.Proofs.Tryz.func11 joined
    (of_decide_eq_true (by kernel_rfl)) (by unfold Func.isWrapper; first | (rw [if_pos (by decide +kernel)]; kernel_rfl) | (rw [if_neg (by decide +kernel)]; exact ⟨rfl, rfl⟩))
    (fun os started H enc _ => lifted os started H enc)

theorem card : Rows.SparseNilCardSaid :=
  Claim7.holds_tied_plain_at .later [] [.data] true (true, "8601c3a19fd7b9414215a23257b9cb42c3d4955cdb782de4827c98d1c9db54e8") false
    holds (fun _ h => by cases h) (by kernel_rfl) (fun _ h => by cases h) sparseNil_row_tie rfl ⟨rfl, rfl⟩ (by kernel_rfl) rfl
    (fun f fn hf hfn => by
      obtain rfl : f = 11 := Option.some.inj ((show Go.Proofs.Tryz.prog.funcNamed "gnomon/gnomonlaw26.SparseNil" = some 11 by kernel_rfl).symm.trans hf) |>.symm
      obtain rfl : fn = Go.Proofs.Tryz.f11 := (Option.some.inj (Go.Proofs.Tryz.func11.symm.trans hfn)).symm
      exact ⟨looks_none, fun j t ht => by
        rw [Go.Proofs.Tryz.params11] at ht
        have hm : t ∈ [3, 3, 3, 23] := by simpa using Array.mem_of_getElem? ht
        have hm3 : t ∈ [3, 23, 67] := (show ∀ u ∈ ([3, 3, 3, 23] : List Nat), u ∈ [3, 23, 67] by decide) t hm
        exact (show Tryz.pinned.checked.prog.wantsStandIn t = false by simpa using List.all_eq_true.1 stand_ins t hm3)⟩)
    goes
end Go.Proofs.YtclljjfkaljdnaaGreatDoor.lawSparseNil
namespace Go.Proofs.YtclljjfkaljdnaaGreatDoor
theorem sparseNil_card_proved : Rows.SparseNilCardSaid := lawSparseNil.card
end Go.Proofs.YtclljjfkaljdnaaGreatDoor
