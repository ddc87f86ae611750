/- Clone, New. -/
import Derived.Test.YtjkcoooijfbfpaaQ1
import Derived.Deep.RegionWith
namespace Go.Proofs.Ytjkcoooijfbfpaa
open Go.RowKit

theorem info3 : (Try.prog.info? 3).map (fun i => (i.zero, i.size, i.bytes)) = some (some (.int .i64 0), 1, 8) := by kernel_rfl
theorem info4 : (Try.prog.info? 4).map (fun i => (i.zero, i.size, i.bytes)) = some (some (.bool false), 1, 1) := by kernel_rfl
theorem one_int (xs : List Int) : ∀ u ∈ xs.map (Value.int .i64), u.oneCell' = true := by
  intro u hu; obtain ⟨s, _, rfl⟩ := List.mem_map.1 hu; rfl

set_option maxHeartbeats 400000 in
theorem cloneI (v : Value) (n : Nat) (xs : List Value) (G : Nat → Prop) (w : World) (h : Rd w v 1 n xs G) (hn : n * 8 ≤ 140737488355328) (h1 : ∀ u ∈ xs, u.oneCell' = true) :
    Calls Try.prog 15 #[v] w fun e w' => ∃ v', e = .returned v' ∧ w'.ownsRow w.heap.size 3 1 v' n xs ∧ Chg (fun _ => False) w w' := by
  obtain ⟨hlen, hmax, ad, cap, rfl, h4, h5, h6, h7⟩ := h
  unfold maxLen at hmax
  have hs := fun (w : World) (a : Option Addr) (n c n' c' : Nat) => Lib.run_eql_slice_nil (P := Try.prog) w 27 3 a n c n' c' Try.underlying27
  obtain ⟨i0, hi, hz0, hz1, hz2⟩ := info_parts info3
  cases ad with
  | none =>
    obtain ⟨rfl, rfl⟩ := h6 rfl
    go_enter Try.func15, Try.ntmps15
    go_wp2
    go_ret
    have : xs = [] := by simpa using hlen
    subst this
    exact ⟨_, rfl, World.ownsRow_nil _ _ _ _, Chg.refl _ _⟩
  | some ad =>
    have hnews : ∀ (o : Obj) j u, xs[j]? = some u → (w.alloc o).cell? (ad.add j) = some u := by
      intro o j u hu
      rcases h7 with rfl | ⟨b, off, he, _, hc⟩
      · have : xs = [] := by simpa using hlen
        subst this; simp at hu
      · simp only [Option.some.injEq] at he
        subst he
        have hadd : (⟨b, off, none⟩ : Addr).add j = ⟨b, off + j, none⟩ := by unfold Addr.add; split <;> simp_all
        rw [hadd]
        exact (chg_alloc (fun _ => False) w o).cell (hc j u hu) (fun e => e)
    have hown : ∀ (cs : Array Value), cs.size = 0 → (w.alloc (.cells cs 3)).ownsRow w.heap.size 3 1 (.slice (some ⟨w.heap.size, 0, none⟩) 0 0) 0 [] :=
      fun cs hcs => World.ownsRow_made w cs 0 (Nat.le_refl _) (Nat.zero_le _) (by simpa using hcs)
    have Hnews := Lib.hid hnews
    clear hnews
    have Hown := Lib.hid hown
    clear hown h7 h6
    go_enter Try.func15, Try.ntmps15
    go_wp2_with (first
      | (at_builtin; refine wpList_append_own _ rfl _ _ 27 rfl w.heap.size 3 i0 _ 1 8 Try.underlying27 hi hz0 hz1 hz2 rfl (by decide) _ 0 [] rfl (Hown.out _ rfl) ad n cap xs rfl (by simpa using hlen) (Hnews.out _) h1 ?_ ?_ ?_ ?_))
    · unfold maxLen; omega
    · omega
    · simp
    intro v' w1 hv hg _
    go_wp2_with fail
    go_ret
    refine ⟨_, rfl, by simpa using hv, ?_⟩
    refine (chg_alloc _ _ _).grown hg (fun k hk hlt => ?_)
    simp only [Value.ownBlock, Option.some.injEq] at hk
    omega

def Qs.new (n : Int) (ps : List Int) : Qs := ⟨List.replicate n.toNat false, ps.take 65536, 0⟩
theorem Qs.new_cnt (n : Int) (ps : List Int) : (Qs.new n ps).cnt = 0 := by simp [Qs.cnt, Qs.new, List.count_replicate]

/-- What New leaves. -/
def NewPost (w : World) (n : Int) (ps : List Int) (e : Ending) (w' : World) : Prop :=
  ∃ p F, e = .returned (.pointer (some ⟨p, 0, none⟩)) ∧ QAt w' p (Qs.new n ps) F ∧ Chg (fun _ => False) w w' ∧ ∀ b, F b → w.heap.size ≤ b

theorem run_mkB (m : Nat) (hm : m ≤ 100000) (w : World) : (Instr.makeSlice 33 (.int .i64 (m : Int)) (.int .i64 (m : Int))).run Try.prog w =
    .ok (.slice (some ⟨w.heap.size, 0, none⟩) m m) (w.alloc (.cells (Array.replicate m (.bool false)) 4)) := by
  obtain ⟨i0, hi0, hz0, hz1, hz2⟩ := info_parts info4
  have := run_make (P := Try.prog) w 33 4 i0 _ Try.underlying33 hi0 hz0 .i64 .i64 m m (by omega) (Int.le_refl _) (by rw [hz2]; omega) (by omega)
  rw [this, Int.toNat_natCast, hz1, Nat.mul_one, show madeCells (Value.bool false).cells m = Array.replicate m (.bool false) by
    apply Array.toList_inj.1; rw [Array.toList_replicate]; exact toList_madeCells_one _ _]

theorem Rd.take {w : World} {ad : Option Addr} {n c : Nat} {xs : List Value} {G : Nat → Prop} (h : Rd w (.slice ad n c) 1 n xs G) (k : Nat) (hk : k ≤ n) : Rd w (.slice ad k k) 1 k (xs.take k) G := by
  obtain ⟨hlen, hmax, ad', cap, he, h4, h5, h6, h7⟩ := h
  obtain ⟨rfl, _, rfl⟩ := Value.slice.inj he
  refine ⟨by rw [List.length_take]; omega, by omega, ad, k, rfl, Nat.le_refl _, by omega, fun e => by have := h6 e; omega, ?_⟩
  rcases h7 with rfl | ⟨b, off, he, hg, hc⟩
  · exact .inl (by omega)
  · refine .inr ⟨b, off, he, hg, fun j u hu => hc j u ?_⟩
    rw [List.getElem?_take] at hu
    split at hu
    · exact hu
    · cases hu

/-- The queue that New builds. -/
theorem qat_new {w' : World} {p wb : Nat} {m : Nat} {pv : Value} {qs : List Int} (base : Nat) (hp : w'.heap[p]? = some (.cells #[.slice (some ⟨wb, 0, none⟩) m m, .int .i64 0, pv, .int .i64 0] 35)) (hw : w'.heap[wb]? = some (.cells (Array.replicate m (.bool false)) 4))
    (hm : m ≤ 100000) (hv : w'.ownsRow base 3 1 pv qs.length (qs.map (.int .i64))) (h1 : wb ≠ p) (h2 : pv.ownBlock ≠ some p) (h3 : pv.ownBlock ≠ some wb) :
    QAt w' p ⟨List.replicate m false, qs, 0⟩ (fun k => k = p ∨ (Value.slice (some ⟨wb, 0, none⟩) m m).ownBlock = some k ∨ pv.ownBlock = some k) := by
  have hc : (⟨List.replicate m false, qs, 0⟩ : Qs).cnt = 0 := by simp [Qs.cnt, List.count_replicate]
  refine ⟨_, pv, fun k => pv.ownBlock = some k, by rw [hc]; exact hp, ?_, Rd.of_owns hv, by simpa [Value.ownBlock] using h1, h2, ?_, fun b hb => (hv.lt b hb).2, rfl⟩
  · refine ⟨by simp, .inr ⟨wb, m, _, by simp, Nat.zero_le _, hw, by simp, by unfold maxLen; omega, by simp, by simp⟩⟩
  · intro b hb; simp only [Value.ownBlock, Option.some.injEq] at hb; subst hb; exact h3

set_option maxHeartbeats 2000000 in
theorem newQ (n : Int) (pv : Value) (ps : List Int) (G : Nat → Prop) (w : World) (h : Rd w pv 1 ps.length (ps.map (.int .i64)) G) (hn : n ≤ 100000) :
    Calls Try.prog 11 #[.int .i64 n, pv] w (NewPost w n ps) := by
  obtain ⟨k, hk⟩ : ∃ k, k = min ps.length 65536 := ⟨_, rfl⟩
  have hkl : k ≤ ps.length := by omega
  have hk6 : k ≤ 65536 := by omega
  have htk : ps.take 65536 = ps.take k := by
    rw [hk]
    by_cases h : ps.length ≤ 65536
    · rw [Nat.min_eq_left h, List.take_of_length_le h, List.take_length]
    · rw [Nat.min_eq_right (by omega)]
  have hlt : (ps.take k).length = k := by rw [List.length_take]; omega
  obtain ⟨ad, cap, rfl⟩ : ∃ ad cap, pv = .slice ad ps.length cap := by obtain ⟨_, _, ad, cap, rfl, _⟩ := h; exact ⟨ad, cap, rfl⟩
  have hmax : ps.length ≤ maxLen := h.2.1
  have hcap : ps.length ≤ cap ∧ cap ≤ maxLen := by obtain ⟨_, _, ad', cap', he, h4, h5, _⟩ := h; obtain ⟨_, _, rfl⟩ := Value.slice.inj he; exact ⟨h4, h5⟩
  have hnil : ad = none → ps.length = 0 ∧ cap = 0 := by obtain ⟨_, _, ad', cap', he, h4, h5, h6, _⟩ := h; obtain ⟨rfl, _, rfl⟩ := Value.slice.inj he; exact h6
  have HC : Hid (∀ w', Chg (fun _ => False) w w' → Calls Try.prog 15 #[.slice ad k k] w' fun e w'' => ∃ v', e = .returned v' ∧ w''.ownsRow w'.heap.size 3 1 v' k ((ps.take k).map (.int .i64)) ∧ Chg (fun _ => False) w' w'') := Lib.hid fun w' hc => by
    have hr := (h.take k hkl).chg hc (fun _ _ e => e)
    rw [← List.map_take] at hr
    exact cloneI _ _ _ _ _ hr (by omega) (one_int _)
  obtain ⟨m, hm⟩ : ∃ m, m = n.toNat := ⟨_, rfl⟩
  have hm6 : m ≤ 100000 := by omega
  have Hhm := Lib.hid hm
  have Hhk := Lib.hid hk
  have Hhtk := Lib.hid htk
  have Hhlt := Lib.hid hlt
  have Hhnil := Lib.hid hnil
  have hmk := run_mkB m hm6
  obtain ⟨hc1, hc2⟩ := hcap
  unfold maxLen at hmax hc2
  have hk0 : (0 : Int) ≤ (k : Int) := by omega
  have hkc : (k : Int) ≤ (cap : Int) := by omega
  clear h hk htk hlt hnil hm
  have hfin : ∀ (w' : World) (p wb : Nat) (pv' : Value), w'.heap[p]? = some (.cells #[.slice (some ⟨wb, 0, none⟩) m m, .int .i64 0, pv', .int .i64 0] 35) → w'.heap[wb]? = some (.cells (Array.replicate m (.bool false)) 4) →
      w'.ownsRow w.heap.size 3 1 pv' k ((ps.take k).map (.int .i64)) → w.heap.size ≤ wb → w.heap.size ≤ p → wb ≠ p → pv'.ownBlock ≠ some p → pv'.ownBlock ≠ some wb → Chg (fun _ => False) w w' →
      NewPost w n ps (.returned (.pointer (some ⟨p, 0, none⟩))) w' := by
    intro w' p wb pv' h1 h2 h3 h4 h5 h6 h7 h8 h9
    refine ⟨p, fun k => k = p ∨ (Value.slice (some ⟨wb, 0, none⟩) m m).ownBlock = some k ∨ pv'.ownBlock = some k, rfl, ?_, h9, ?_⟩
    · unfold Qs.new
      rw [Hhtk.out, ← Hhm.out]
      exact qat_new w.heap.size h1 h2 hm6 (by rw [Hhlt.out]; exact h3) h6 h7 h8
    · rintro b (rfl | hb | hb)
      · exact h5
      · simp only [Value.ownBlock, Option.some.injEq] at hb; omega
      · exact (h3.lt b hb).1
  have Hfin := Lib.hid hfin
  clear hfin
  by_cases hn0 : 0 ≤ n
  · obtain rfl : n = (m : Int) := by have := Hhm.out; omega
    have hd1 : Chg (fun _ => False) w w.drew := (Chg.refl _ _).drew
    have hd2 : Chg (fun _ => False) w (w.alloc (.cells (Array.replicate m (.bool false)) 4)).drew := ((Chg.refl _ _).alloc _).drew
    by_cases hpl : ps.length ≤ 65536
    · obtain rfl : k = ps.length := by have := Hhk.out; omega
      go_enter Try.func11, Try.ntmps11
      go_wp2
      go_region_with (first | (go_at_call 15; with_reducible refine (HC.out _ hd2).mono ?_; rintro e w1 ⟨v', rfl, hv', hcv⟩; obtain ⟨ad2, c2, rfl⟩ := slice_own hv') | (go_at_call 15; with_reducible refine (HC.out _ hd1).mono ?_; rintro e w1 ⟨v', rfl, hv', hcv⟩; obtain ⟨ad2, c2, rfl⟩ := slice_own hv'))
      all_goals
        go_wp2
        go_ret
        have hsz := hcv.size
        simp at hsz
        first
          | (refine Hfin.out _ _ w.heap.size _ (blk_alloc_new _ _) (blk_alloc (hcv.blk (blk_alloc_new w _) (fun e => e)) _) (owns_base (owns_chg hv' (chg_alloc (fun _ => False) _ _) (fun _ _ e => e)) hd2.size) (Nat.le_refl _) (by omega) (by omega) (fun e => ?_) (fun e => ?_) ((hd2.trans hcv).alloc _)
             · have := (hv'.lt _ e).2; omega
             · have h5 : w.heap.size + 1 ≤ w.heap.size := by simpa using (hv'.lt _ e).1
               omega)
          | (refine Hfin.out _ _ w1.heap.size _ (by simpa using blk_alloc_new (w1.alloc (.cells (Array.replicate m (.bool false)) 4)) _) (blk_alloc (blk_alloc_new w1 _) _) (owns_base (owns_chg hv' ((chg_alloc (fun _ => False) _ _).alloc _) (fun _ _ e => e)) hd1.size) (by omega) (by omega) (by omega) (fun e => ?_) (fun e => ?_) (((hd1.trans hcv).alloc _).alloc _)
             · have := (hv'.lt _ e).2; omega
             · have := (hv'.lt _ e).2; omega)
    · obtain rfl : k = 65536 := by have := Hhk.out; omega
      go_enter Try.func11, Try.ntmps11
      go_wp2
      go_region_with (first | (go_at_call 15; with_reducible refine (HC.out _ hd2).mono ?_; rintro e w1 ⟨v', rfl, hv', hcv⟩; obtain ⟨ad2, c2, rfl⟩ := slice_own hv') | (go_at_call 15; with_reducible refine (HC.out _ hd1).mono ?_; rintro e w1 ⟨v', rfl, hv', hcv⟩; obtain ⟨ad2, c2, rfl⟩ := slice_own hv'))
      all_goals
        go_wp2
        go_ret
        have hsz := hcv.size
        simp at hsz
        first
          | (refine Hfin.out _ _ w.heap.size _ (blk_alloc_new _ _) (blk_alloc (hcv.blk (blk_alloc_new w _) (fun e => e)) _) (owns_base (owns_chg hv' (chg_alloc (fun _ => False) _ _) (fun _ _ e => e)) hd2.size) (Nat.le_refl _) (by omega) (by omega) (fun e => ?_) (fun e => ?_) ((hd2.trans hcv).alloc _)
             · have := (hv'.lt _ e).2; omega
             · have h5 : w.heap.size + 1 ≤ w.heap.size := by simpa using (hv'.lt _ e).1
               omega)
          | (refine Hfin.out _ _ w1.heap.size _ (by simpa using blk_alloc_new (w1.alloc (.cells (Array.replicate m (.bool false)) 4)) _) (blk_alloc (blk_alloc_new w1 _) _) (owns_base (owns_chg hv' ((chg_alloc (fun _ => False) _ _).alloc _) (fun _ _ e => e)) hd1.size) (by omega) (by omega) (by omega) (fun e => ?_) (fun e => ?_) (((hd1.trans hcv).alloc _).alloc _)
             · have := (hv'.lt _ e).2; omega
             · have := (hv'.lt _ e).2; omega)
  · obtain rfl : m = 0 := by have := Hhm.out; omega
    have hn1 : n < 0 := by omega
    have hmk : ∀ w : World, (Instr.makeSlice 33 (.int .i64 0) (.int .i64 0)).run Try.prog w = .ok (.slice (some ⟨w.heap.size, 0, none⟩) 0 0) (w.alloc (.cells #[] 4)) := run_mkB 0 (by omega)
    have hd1 : Chg (fun _ => False) w w.drew := (Chg.refl _ _).drew
    have hd2 : Chg (fun _ => False) w (w.alloc (.cells #[] 4)).drew := ((Chg.refl _ _).alloc _).drew
    by_cases hpl : ps.length ≤ 65536
    · obtain rfl : k = ps.length := by have := Hhk.out; omega
      go_enter Try.func11, Try.ntmps11
      go_wp2
      go_region_with (first | (go_at_call 15; with_reducible refine (HC.out _ hd2).mono ?_; rintro e w1 ⟨v', rfl, hv', hcv⟩; obtain ⟨ad2, c2, rfl⟩ := slice_own hv') | (go_at_call 15; with_reducible refine (HC.out _ hd1).mono ?_; rintro e w1 ⟨v', rfl, hv', hcv⟩; obtain ⟨ad2, c2, rfl⟩ := slice_own hv'))
      all_goals
        go_wp2
        go_ret
        have hsz := hcv.size
        simp at hsz
        first
          | (refine Hfin.out _ _ w.heap.size _ (blk_alloc_new _ _) (blk_alloc (hcv.blk (blk_alloc_new w _) (fun e => e)) _) (owns_base (owns_chg hv' (chg_alloc (fun _ => False) _ _) (fun _ _ e => e)) hd2.size) (Nat.le_refl _) (by omega) (by omega) (fun e => ?_) (fun e => ?_) ((hd2.trans hcv).alloc _)
             · have := (hv'.lt _ e).2; omega
             · have h5 : w.heap.size + 1 ≤ w.heap.size := by simpa using (hv'.lt _ e).1
               omega)
          | (refine Hfin.out _ _ w1.heap.size _ (by simpa using blk_alloc_new (w1.alloc (.cells #[] 4)) _) (blk_alloc (blk_alloc_new w1 _) _) (owns_base (owns_chg hv' ((chg_alloc (fun _ => False) _ _).alloc _) (fun _ _ e => e)) hd1.size) (by omega) (by omega) (by omega) (fun e => ?_) (fun e => ?_) (((hd1.trans hcv).alloc _).alloc _)
             · have := (hv'.lt _ e).2; omega
             · have := (hv'.lt _ e).2; omega)
    · obtain rfl : k = 65536 := by have := Hhk.out; omega
      go_enter Try.func11, Try.ntmps11
      go_wp2
      go_region_with (first | (go_at_call 15; with_reducible refine (HC.out _ hd2).mono ?_; rintro e w1 ⟨v', rfl, hv', hcv⟩; obtain ⟨ad2, c2, rfl⟩ := slice_own hv') | (go_at_call 15; with_reducible refine (HC.out _ hd1).mono ?_; rintro e w1 ⟨v', rfl, hv', hcv⟩; obtain ⟨ad2, c2, rfl⟩ := slice_own hv'))
      all_goals
        go_wp2
        go_ret
        have hsz := hcv.size
        simp at hsz
        first
          | (refine Hfin.out _ _ w.heap.size _ (blk_alloc_new _ _) (blk_alloc (hcv.blk (blk_alloc_new w _) (fun e => e)) _) (owns_base (owns_chg hv' (chg_alloc (fun _ => False) _ _) (fun _ _ e => e)) hd2.size) (Nat.le_refl _) (by omega) (by omega) (fun e => ?_) (fun e => ?_) ((hd2.trans hcv).alloc _)
             · have := (hv'.lt _ e).2; omega
             · have h5 : w.heap.size + 1 ≤ w.heap.size := by simpa using (hv'.lt _ e).1
               omega)
          | (refine Hfin.out _ _ w1.heap.size _ (by simpa using blk_alloc_new (w1.alloc (.cells #[] 4)) _) (blk_alloc (blk_alloc_new w1 _) _) (owns_base (owns_chg hv' ((chg_alloc (fun _ => False) _ _).alloc _) (fun _ _ e => e)) hd1.size) (by omega) (by omega) (by omega) (fun e => ?_) (fun e => ?_) (((hd1.trans hcv).alloc _).alloc _)
             · have := (hv'.lt _ e).2; omega
             · have := (hv'.lt _ e).2; omega)
end Go.Proofs.Ytjkcoooijfbfpaa
