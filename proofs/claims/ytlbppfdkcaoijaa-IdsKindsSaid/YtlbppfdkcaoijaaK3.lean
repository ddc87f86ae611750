/- Contracts of the table of arrays: K2's, turned by subst.py. -/
import Derived.Test.YtlbppfdkcaoijaaK2
namespace Go.Proofs.Ytlbppfdkcaoijaa
open Go.RowKit

def TabA (w : World) (p : Nat) (xs : List Ar) (F : Nat → Prop) : Prop :=
  ∃ mb lv, w.heap[p]? = some (.cells #[.map (some mb), lv] 73) ∧ MapAt w mb (kvF Ar.enc 0 xs) ∧ w.ownsRow 0 30 2 lv xs.length (xs.flatMap Ar.cells) ∧ p ≠ mb ∧ lv.ownBlock ≠ some p ∧ lv.ownBlock ≠ some mb ∧
    F = fun k => k = p ∨ k = mb ∨ lv.ownBlock = some k
theorem TabA.chg {w w' : World} {p : Nat} {xs : List Ar} {F S : Nat → Prop} (h : TabA w p xs F) (hc : Chg S w w') (hs : ∀ b, F b → ¬ S b) : TabA w' p xs F := by
  obtain ⟨mb, lv, hb, hm, hl, hpm, hlp, hlm, rfl⟩ := h
  exact ⟨mb, lv, hc.blk hb (hs p (.inl rfl)), hm.chg hc (hs mb (.inr (.inl rfl))), owns_chg hl hc (fun k hk => hs k (.inr (.inr hk))), hpm, hlp, hlm, rfl⟩
theorem TabA.lt {w : World} {p : Nat} {xs : List Ar} {F : Nat → Prop} (h : TabA w p xs F) : ∀ b, F b → b < w.heap.size := by
  obtain ⟨mb, lv, hb, hm, hl, hpm, hlp, hlm, rfl⟩ := h
  rintro b (rfl | rfl | h)
  · exact blk_lt hb
  · exact hm.lt
  · exact (hl.lt b h).2

set_option maxHeartbeats 400000 in
theorem lenA (p : Nat) (xs : List Ar) (F : Nat → Prop) (w : World) (h : TabA w p xs F) :
    Calls Try.prog 17 #[.pointer (some ⟨p, 0, none⟩)] w fun e w' => e = .returned (.int .i64 xs.length) ∧ w = w' := by
  obtain ⟨mb, lv, hb, hm, hl, _⟩ := h
  have hc := cell_of_blk (i := 1) hb rfl
  obtain ⟨ad, c, rfl⟩ := slice_of_owns hl
  go_enter Try.func17, Try.ntmps17
  go_wp2
  go_ret
  exact ⟨rfl, rfl⟩

theorem keysA (xs : List Ar) : ∀ p ∈ kvF Ar.enc 0 xs, ∃ q : Ar, p.1 = q.enc := keys_kvF (enc := Ar.enc) (K := fun v => ∃ p : Ar, v = p.enc) (fun a => ⟨a, rfl⟩) 0 xs

/-- The look-up, as the walk meets it. -/
theorem lookA {w : World} {mb : Nat} {xs : List Ar} (hm : MapAt w mb (kvF Ar.enc 0 xs)) (k : Ar) :
    (Instr.lookup 71 (.map (some mb)) (.agg #[.int .u8 k.a, .int .u8 k.b]) true).run Try.prog w = .ok (found (tIx k xs)) w := by
  have := run_lookup_at koA Try.underlying71 (zero3 w) hm (keysA xs) (k := k.enc) ⟨k, rfl⟩ true
  rw [lookV_kvF Ar.inj k 0 xs] at this
  rw [show Value.agg #[.int .u8 k.a, .int .u8 k.b] = k.enc from rfl, this]
  cases tIx k xs <;> simp [found]

/-- What an Id leaves. -/
def IdPostA (w : World) (p : Nat) (xs : List Ar) (F : Nat → Prop) (k : Ar) (e : Ending) (w' : World) : Prop :=
  e = .returned (.int .i64 (tNo k xs : Nat)) ∧ ∃ F', TabA w' p (tAdd k xs) F' ∧ Chg F w w' ∧ ∀ b, F' b → F b ∨ w.heap.size ≤ b

set_option maxHeartbeats 400000 in
theorem idA_got (p : Nat) (xs : List Ar) (F : Nat → Prop) (k : Ar) (w : World) (h : TabA w p xs F) (i : Nat) (hi : tIx k xs = some i) :
    Calls Try.prog 14 #[.pointer (some ⟨p, 0, none⟩), .agg #[.int .u8 k.a, .int .u8 k.b]] w fun e w' => e = .returned (.int .i64 i) ∧ Chg (fun _ => False) w w' := by
  have h0 := h.chg (chg_alloc (fun _ => False) w (.cells #[.int .u8 k.a, .int .u8 k.b] 30)) (fun _ _ e => e)
  obtain ⟨mb, lv, hb, hm, hl, hpm, hlp, hlm, hF⟩ := h0
  have hc := cell_of_blk (i := 0) hb rfl
  have hx := blk_alloc_new w (.cells #[.int .u8 k.a, .int .u8 k.b] 30)
  have hx0 := cell_of_blk (i := 0) hx rfl
  have hx1 := cell_of_blk (i := 1) hx rfl
  have hC : Hid (Chg (fun _ => False) w (w.alloc (.cells #[.int .u8 k.a, .int .u8 k.b] 30))) := Lib.hid (chg_alloc _ _ _)
  have hrun := fun n => lookA (hm.chg (chg_drewN (fun _ => False) _ n) (fun e => e)) k
  rw [hi] at hrun
  simp only [found, Option.getD_some, Option.isSome_some] at hrun
  clear hF hlp hlm hl hm hb hx h hi
  go_enter Try.func14, Try.ntmps14
  go_wp2
  generalize w.heap.size = bx at *
  generalize w.alloc (.cells #[.int .u8 k.a, .int .u8 k.b] 30) = w0 at *
  go_quiet (fail)
  go_wp2
  go_ret
  exact ⟨rfl, hC.out.drewN _⟩

theorem info30 : (Try.prog.info? 30).map (fun i => (i.zero, i.size, i.bytes)) = some (some (.agg #[.int .u8 0, .int .u8 0]), 2, 2) := by kernel_rfl

set_option maxHeartbeats 1000000 in
theorem idA_new (p : Nat) (xs : List Ar) (F : Nat → Prop) (k : Ar) (w : World) (h : TabA w p xs F) (hn : xs.length < 1000000) (hi : tIx k xs = none) :
    Calls Try.prog 14 #[.pointer (some ⟨p, 0, none⟩), .agg #[.int .u8 k.a, .int .u8 k.b]] w (IdPostA w p xs F k) := by
  have hlt0 := h.lt
  have Hlt := Lib.hid hlt0
  clear hlt0
  have h0 := h.chg (chg_alloc (fun _ => False) w (.cells #[.int .u8 k.a, .int .u8 k.b] 30)) (fun _ _ e => e)
  obtain ⟨mb, lv, hb, hm, hl, hpm, hlp, hlm, hF⟩ := h0
  obtain ⟨ad, c, rfl⟩ := slice_of_owns hl
  have hc := cell_of_blk (i := 0) hb rfl
  have hc1 := cell_of_blk (i := 1) hb rfl
  have hx := blk_alloc_new w (.cells #[.int .u8 k.a, .int .u8 k.b] 30)
  have hx0 := cell_of_blk (i := 0) hx rfl
  have hx1 := cell_of_blk (i := 1) hx rfl
  have hC : Hid (Chg (fun _ => False) w (w.alloc (.cells #[.int .u8 k.a, .int .u8 k.b] 30))) := Lib.hid (chg_alloc _ _ _)
  have hrun := fun n => lookA (hm.chg (chg_drewN (fun _ => False) _ n) (fun e => e)) k
  rw [hi] at hrun
  simp only [found, Option.getD_none, Option.isSome_none] at hrun
  have Hi := Lib.hid hi
  have HF := Lib.hid hF
  clear hF h hi
  go_enter Try.func14, Try.ntmps14
  go_wp2
  have hbx : p < w.heap.size ∧ mb < w.heap.size ∧ (∀ g, (Value.slice ad xs.length c).ownBlock = some g → g < w.heap.size) := by
    refine ⟨Hlt.out p ?_, Hlt.out mb ?_, fun g hg => Hlt.out g ?_⟩ <;> rw [HF.out] <;> simp [*]
  have Hbx := Lib.hid hbx
  clear hbx
  have hsz : Hid ((w.alloc (.cells #[.int .u8 k.a, .int .u8 k.b] 30)).heap.size = w.heap.size + 1) := Lib.hid (by simp)
  generalize hbxe : w.heap.size = bx at *
  generalize w.alloc (.cells #[.int .u8 k.a, .int .u8 k.b] 30) = w0 at *
  have Hbxe := Lib.hid hbxe
  clear hbxe
  go_quiet (fail)
  go_wp2
  have hcl1 := Lib.hid (show Chg (fun _ => False) w0 (w0.drewN (nq + 1)) from chg_drewN _ _ _)
  have hb1 := hcl1.out.blk hb (fun e => e)
  have hxb1 := hcl1.out.blk hx (fun e => e)
  have hm1 := hm.chg hcl1.out (fun e => e)
  have hl1 := owns_chg hl hcl1.out (fun _ _ e => e)
  have hput := putV_kvF Ar.inj k 0 xs Hi.out
  rw [Nat.zero_add] at hput
  obtain ⟨w2, hrun2, hm2, hg2⟩ := run_mapUpdate_at koA Try.underlying71 hm1 (keysA xs) (k := k.enc) ⟨k, rfl⟩ (.int .i64 xs.length)
  rw [hput] at hm2
  have hb2 := hg2.blk hb1 hpm
  have hbxm : bx ≠ mb := by have := Hbx.out.2.1; omega
  have hxb2 := hg2.blk hxb1 hbxm
  have hl2 := owns_chg hl1 hg2 (fun k hk e => hlm (e ▸ hk))
  have hC2 : Hid (Chg F w w2) := Lib.hid (((hC.out.mono (fun _ _ e => e.elim)).trans (hcl1.out.mono (fun _ _ e => e.elim))).trans (hg2.mono (fun _ _ e => by rw [HF.out]; exact .inr (.inl e))))
  clear hput hm1 hb1 hxb1 hl1 hm hl hb hx hrun
  have Hrun2 : (Instr.mapUpdate 71 (.map (some mb)) (.agg #[.int .u8 k.a, .int .u8 k.b]) (.int .i64 xs.length)).run Try.prog (w0.drewN (nq + 1)) = .ok () w2 := hrun2
  clear hrun2
  refine wp_region_fam_lit (by kernel_rfl) (by kernel_rfl) (fun L w' => Hid (w' = if L 6 then w2 else w0.drewN (nq + 1))) (fun L hL => by rw [hL 6 (by decide)]; exact Lib.hid rfl) ?_
  refine wpFam_val (wanted_none rfl) (fun L w' hh => hh) ?_
  apply Exists.intro
  refine ⟨fun L w' _ _ _ hh => ?_, ?_⟩
  · (clear hh; go_simp; rfl)
  go_simp
  refine wpFam_val (wanted_none rfl) (fun L w' hh => hh) ?_
  apply Exists.intro
  refine ⟨fun L w' _ _ _ hh => ?_, ?_⟩
  · (clear hh; go_simp; rfl)
  go_simp
  refine wpFam_val (wanted_none rfl) (fun L w' hh => hh) ?_
  apply Exists.intro
  refine ⟨fun L w' _ _ _ hh => ?_, ?_⟩
  · (clear hh; go_simp; rfl)
  go_simp
  refine wpFam_val (wanted_none rfl) (fun L w' hh => hh) ?_
  apply Exists.intro
  refine ⟨fun L w' hcl _ hk hh => ?_, ?_⟩
  · (have q6 := dep_false hcl 20 (i := 6) (j := 3) (by kernel_rfl) hk; have hh := hh.out; simp only [q6, Bool.false_eq_true, if_false] at hh; subst hh; go_simp; rfl)
  go_simp
  refine wpFam_val (wanted_none rfl) (fun L w' hh => hh) ?_
  apply Exists.intro
  refine ⟨fun L w' hcl _ hk hh => ?_, ?_⟩
  · (have q6 := dep_false hcl 20 (i := 6) (j := 4) (by kernel_rfl) hk; have hh := hh.out; simp only [q6, Bool.false_eq_true, if_false] at hh; subst hh; go_simp; rfl)
  go_simp
  refine wpFam_val (wanted_none rfl) (fun L w' hh => hh) ?_
  apply Exists.intro
  refine ⟨fun L w' _ _ _ hh => ?_, ?_⟩
  · (clear hh; go_simp; rfl)
  go_simp
  refine wpFam_skip rfl (fun L w' hcl _ hk hh => ⟨w2, ?_, Lib.hid (by simp [doneToo])⟩) ?_
  · (have hh := hh.out; simp only [hk, Bool.false_eq_true, if_false] at hh; subst hh; go_simp)
  go_simp
  refine wpFam_end ?_
  intro L w3 hL hh
  have hh := hh.out
  rw [hL 6 (by decide), if_pos rfl] at hh
  subst hh
  clear Hrun2 hc hc1 hx0 hx1 hL
  have hld := Lib.hid (show Chg (fun _ => False) w3 w3.drew from (Chg.refl _ _).drew)
  have hcl3 := Lib.hid (show Chg (fun _ => False) w3 ((w3.alloc (.cells #[.int .u8 k.a, .int .u8 k.b] 30)).drew) from ((Chg.refl _ _).alloc _).drew)
  obtain ⟨i0, hi0, hz0, hz1, hz2⟩ := info_parts info30
  obtain ⟨v4, w4, hrun4, g1, g2, g3, g4⟩ := run_append_own_at (P := Try.prog) ((w3.alloc (.cells #[.int .u8 k.a, .int .u8 k.b] 30)).drew) 0 70 70 30 i0 _ 2 2 Try.underlying70 hi0 hz0 hz1 hz2 rfl (by decide)
    (.slice ad xs.length c) xs.length (xs.flatMap Ar.cells) (owns_chg hl2 hcl3.out (fun _ _ e => e)) ⟨w3.heap.size, 0, none⟩ 1 1 k.cells rfl (World.news_of_block (w := (w3.alloc (.cells #[.int .u8 k.a, .int .u8 k.b] 30)).drew) (blk_alloc_new w3 _)) (by simp [Ar.cells, Value.oneCell']) (by unfold maxLen; omega) (by omega) (Nat.zero_le _)
  obtain ⟨g, cap, rfl, _, hgl⟩ := g1.form (by omega)
  have hgg : (Value.slice ad xs.length c).ownBlock = some g ∨ g = w3.heap.size + 1 := by
    simpa [Value.ownBlock, eq_comm] using g4
  have hC4 : Hid (Chg (fun k => (Value.slice ad xs.length c).ownBlock = some k) w3 w4) := Lib.hid ((hcl3.out.mono (fun _ _ e => e.elim)).trans ((Chg.refl _ _).grown g2 (fun k hk _ => hk)))
  have hb4 := hC4.out.blk hb2 hlp
  have hc4 := cell_of_blk (i := 1) hb4 rfl
  have hf4 := frozen_of_blk (i := 1) hb4
  have hc3 := cell_of_blk (i := 1) hb2 rfl
  have hx0 := cell_of_blk (i := 0) hxb2 rfl
  have hx1 := cell_of_blk (i := 1) hxb2 rfl
  have hc3a := (chg_alloc (fun _ => False) w3 (.cells #[.int .u8 k.a, .int .u8 k.b] 30)).cell hc3 (fun e => e)
  have Hg := Lib.hid hgg
  have Hg1 := Lib.hid g1
  clear hgg g1 g2 g3 g4 hb2 hl2 hz0 hz1 hz2 hi0
  go_wp2
  refine wp_region_fam_lit (by kernel_rfl) (by kernel_rfl) (fun L w' => Hid (w' = if L 10 then w4.setCell ⟨p, 1, none⟩ (.slice (some ⟨g, 0, none⟩) (xs.length + 1) cap) else if L 7 then w4 else if L 6 then (w3.alloc (.cells #[.int .u8 k.a, .int .u8 k.b] 30)).drew else w3.drew))
    (fun L hL => by rw [hL 10 (by decide), hL 7 (by decide), hL 6 (by decide)]; exact Lib.hid rfl) ?_
  refine wpFam_val (wanted_none rfl) (fun L w' hh => hh) ?_
  apply Exists.intro
  refine ⟨fun L w' _ _ _ hh => ?_, ?_⟩
  · (clear hh; go_simp; rfl)
  go_simp
  refine wpFam_val (wanted_none rfl) (fun L w' hh => hh) ?_
  apply Exists.intro
  refine ⟨fun L w' _ _ _ hh => ?_, ?_⟩
  · (clear hh; go_simp; rfl)
  go_simp
  refine wpFam_val (wanted_none rfl) (fun L w' hh => hh) ?_
  apply Exists.intro
  refine ⟨fun L w' _ _ _ hh => ?_, ?_⟩
  · (clear hh; go_simp; rfl)
  go_simp
  refine wpFam_val (wanted_none rfl) (fun L w' hh => hh) ?_
  apply Exists.intro
  refine ⟨fun L w' _ _ _ hh => ?_, ?_⟩
  · (clear hh; go_simp; rfl)
  go_simp
  refine wpFam_val (wanted_none rfl) (fun L w' hh => hh) ?_
  apply Exists.intro
  refine ⟨fun L w' hcl _ hk hh => ?_, ?_⟩
  · (have q7 := dep_false hcl 20 (i := 7) (j := 4) (by kernel_rfl) hk; have q10 := dep_false hcl 20 (i := 10) (j := 4) (by kernel_rfl) hk; have hh := hh.out; simp only [q7, q10, Bool.false_eq_true, if_false] at hh; cases q6 : L 6 <;> simp only [q6, Bool.false_eq_true, if_false, if_true] at hh <;> subst hh <;> (go_simp; try rfl))
  go_simp
  refine wpFam_val (wanted_none rfl) (fun L w' hh => hh) ?_
  apply Exists.intro
  refine ⟨fun L w' hcl _ hk hh => ?_, ?_⟩
  · (have q6 := dep_false hcl 20 (i := 6) (j := 5) (by kernel_rfl) hk; have q7 := dep_false hcl 20 (i := 7) (j := 5) (by kernel_rfl) hk; have q10 := dep_false hcl 20 (i := 10) (j := 5) (by kernel_rfl) hk; have hh := hh.out; simp only [q6, q7, q10, Bool.false_eq_true, if_false] at hh; subst hh; go_simp; rfl)
  go_simp
  refine wpFam_turn rfl (.slice (some ⟨w3.heap.size, 0, none⟩) 1 1) (fun L w' hcl _ hk hh => ⟨(w3.alloc (.cells #[.int .u8 k.a, .int .u8 k.b] 30)).drew, ?_, ?_⟩) ?_
  · (have q7 := dep_false hcl 20 (i := 7) (j := 6) (by kernel_rfl) hk; have q10 := dep_false hcl 20 (i := 10) (j := 6) (by kernel_rfl) hk; have hh := hh.out; simp only [q7, q10, hk, Bool.false_eq_true, if_false] at hh; subst hh; go_simp)
  · (have q7 := dep_false hcl 20 (i := 7) (j := 6) (by kernel_rfl) hk; have q10 := dep_false hcl 20 (i := 10) (j := 6) (by kernel_rfl) hk; exact Lib.hid (by simp [doneToo, q7, q10]))
  go_simp
  refine wpFam_turn rfl (.slice (some ⟨g, 0, none⟩) (xs.length + 1) cap) (fun L w' hcl hd hk hh => ⟨w4, ?_, ?_⟩) ?_
  · (have q10 := dep_false hcl 20 (i := 10) (j := 7) (by kernel_rfl) hk; have q6 : L 6 = true := hd ⟨6, .data⟩ (by simp) rfl; have hh := hh.out; simp only [q6, q10, hk, Bool.false_eq_true, if_false, if_true] at hh; subst hh; exact exec_append rfl rfl rfl hrun4)
  · (have q10 := dep_false hcl 20 (i := 10) (j := 7) (by kernel_rfl) hk; exact Lib.hid (by simp [doneToo, q10]))
  go_simp
  refine wpFam_val (wanted_none rfl) (fun L w' hh => hh) ?_
  apply Exists.intro
  refine ⟨fun L w' _ _ _ hh => ?_, ?_⟩
  · (clear hh; go_simp; rfl)
  go_simp
  refine wpFam_val (wanted_none rfl) (fun L w' hh => hh) ?_
  apply Exists.intro
  refine ⟨fun L w' _ _ _ hh => ?_, ?_⟩
  · (clear hh; go_simp; rfl)
  go_simp
  refine wpFam_skip rfl (fun L w' hcl hd hk hh => ⟨w4.setCell ⟨p, 1, none⟩ (.slice (some ⟨g, 0, none⟩) (xs.length + 1) cap), ?_, Lib.hid (by simp [doneToo])⟩) ?_
  · (have q7 : L 7 = true := hd ⟨7, .data⟩ (by simp) rfl; have hh := hh.out; simp only [q7, hk, Bool.false_eq_true, if_false, if_true] at hh; subst hh; go_simp)
  go_simp
  refine wpFam_end ?_
  intro L w5 hL hh
  have hh := hh.out
  rw [hL 10 (by decide), if_pos rfl] at hh
  have Hw5 := Lib.hid hh
  clear hh hc4 hf4 hc3 hc3a hx0 hx1 hrun4
  go_wp2
  go_ret
  have hs2 := hC2.out.size
  have hbb := Hbx.out
  have hbe := Hbxe.out
  have hgn : Hid ((Value.slice ad xs.length c).ownBlock = some g ∨ w.heap.size ≤ g) := Hg.out.imp id (fun e => by omega)
  have hgp : g ≠ p := by rintro rfl; rcases hgn.out with h | h; exact hlp h; omega
  have hgm : g ≠ mb := by rintro rfl; rcases hgn.out with h | h; exact hlm h; omega
  have hw := chg_setCell w4 p 1 (.slice (some ⟨g, 0, none⟩) (xs.length + 1) cap)
  rw [Hw5.out]
  refine ⟨by simp [tNo, Hi.out], _, ⟨mb, .slice (some ⟨g, 0, none⟩) (xs.length + 1) cap, ?_, ?_, ?_, hpm, ?_, ?_, rfl⟩, ?_, ?_⟩
  · have := blk_setCell (i := 1) hb4 (.slice (some ⟨g, 0, none⟩) (xs.length + 1) cap)
    simpa using this
  · simp only [tAdd, Hi.out]; exact (hm2.chg hC4.out hlm).chg hw (Ne.symm hpm)
  · have := owns_chg Hg1.out hw (fun k hk e => hgp (by simpa [Value.ownBlock, e] using hk))
    simpa [tAdd, Hi.out] using this
  · simpa [Value.ownBlock] using hgp
  · simpa [Value.ownBlock] using hgm
  · refine (hC2.out.trans (hC4.out.mono (fun k _ e => ?_))).trans (hw.mono (fun k _ e => ?_))
    · rw [HF.out]; exact .inr (.inr e)
    · rw [HF.out]; exact .inl e
  · rw [HF.out]
    rintro b (h | h | h)
    · exact .inl (.inl h)
    · exact .inl (.inr (.inl h))
    · simp only [Value.ownBlock, Option.some.injEq] at h
      subst h
      rcases hgn.out with h | h
      · exact .inl (.inr (.inr h))
      · exact .inr h

theorem idA (p : Nat) (xs : List Ar) (F : Nat → Prop) (k : Ar) (w : World) (h : TabA w p xs F) (hn : xs.length < 1000000) :
    Calls Try.prog 14 #[.pointer (some ⟨p, 0, none⟩), .agg #[.int .u8 k.a, .int .u8 k.b]] w (IdPostA w p xs F k) := by
  cases hi : tIx k xs with
  | none => exact idA_new p xs F k w h hn hi
  | some i =>
    refine (idA_got p xs F k w h i hi).mono ?_
    rintro e w' ⟨rfl, hC⟩
    exact ⟨by simp [tNo, hi], F, by simpa [tAdd, hi] using h.chg hC (fun _ _ e => e), hC.mono (fun _ _ e => e.elim), fun _ h => .inl h⟩

def NewPostA (w : World) (xs : List Ar) (e : Ending) (w' : World) : Prop :=
  ∃ p F, e = .returned (.pointer (some ⟨p, 0, none⟩)) ∧ TabA w' p (tAll xs) F ∧ Chg (fun _ => False) w w' ∧ (∀ b, F b → w.heap.size ≤ b)
def NewRelA (w : World) (p : Nat) (xs : List Ar) (k : Nat) (wr : World) : Prop :=
  ∃ F, TabA wr p (tAll (xs.take k)) F ∧ Chg (fun _ => False) w wr ∧ (∀ b, F b → w.heap.size ≤ b)

set_option maxHeartbeats 400000 in
theorem newA (v : Value) (xs : List Ar) (G : Nat → Prop) (w : World) (h : Rd w v 2 xs.length (xs.flatMap Ar.cells) G) (hn : xs.length < 1000000) :
    Calls Try.prog 11 #[v] w (NewPostA w xs) := by
  obtain ⟨hlen, hmax, ad, cap, rfl, h4, h5, h6, h7⟩ := h
  have hmm := @run_makeMap Try.prog
  clear h4 h5 h6 hlen hmax
  go_enter Try.func11, Try.ntmps11
  go_wp2_with fail
  go_loopw [11] (fun i wr => ∃ k : Nat, k ≤ xs.length ∧ i = .int .i64 k ∧ NewRelA w (w.heap.size + 1) xs k wr) (fun i _ => xs.length - (intOf i).toNat)
  case atStart =>
    refine ⟨0, Nat.zero_le _, rfl, _, ⟨w.heap.size, .slice none 0 0, ?_, ?_, ?_, by omega, by simp [Value.ownBlock], by simp [Value.ownBlock], rfl⟩, ?_, ?_⟩
    · have := blk_alloc_new (w.alloc (.map #[] 0)) (.cells #[.map (some w.heap.size), .slice none 0 0] 73)
      simpa using this
    · exact (mapAt_made w).chg (chg_alloc (fun _ => False) _ _) (fun e => e)
    · exact World.ownsRow_nil _ _ _ _
    · exact ((Chg.refl _ _).alloc _).alloc _
    · rintro b (rfl | rfl | h)
      · omega
      · omega
      · simp [Value.ownBlock] at h
  case round =>
    obtain ⟨k, hk, rfl, F, hT, hC, hF⟩ := hrel
    by_cases hlt : k < xs.length
    · obtain ⟨b, off, rfl, hG, hcl⟩ : ∃ b off, ad = some ⟨b, off, none⟩ ∧ _ ∧ _ := h7.resolve_left (by omega)
      obtain ⟨x, hx⟩ : ∃ x, x = xs[k] := ⟨_, rfl⟩
      have hcx : ∀ j u, x.cells[j]? = some u → wr.cell? ⟨b, off + (k * 2 + j), none⟩ = some u := by
        intro j u hu
        refine hC.cell (hcl _ _ ?_) (fun e => e)
        have hj3 : j < 2 := (List.getElem?_eq_some_iff.1 hu).1
        rw [flat_get Ar.cells (fun _ => rfl) xs k hlt j hj3, ← hx]
        exact hu
      have hc0 : wr.cell? ⟨b, off + k * 2, none⟩ = some (.int .u8 x.a) := hcx 0 _ rfl
      have hc1 : wr.cell? ⟨b, off + k * 2 + 1, none⟩ = some (.int .u8 x.b) := hcx 1 _ rfl
      have hb1 : (0 : Int) ≤ (k : Int) := by omega
      have hb2 : (k : Int) < xs.length := by omega
      have hca := chg_alloc (fun _ => False) wr (.cells #[.int .u8 x.a, .int .u8 x.b] 30)
      have hT' := idA (w.heap.size + 1) _ F x _ (hT.chg hca (fun _ _ e => e)) (by have := tAll_len (xs.take k); simp at this; omega)
      have HT := Lib.hid hT'
      have Hx := Lib.hid hx
      clear hT' hcl h7 hcx hx
      go_wp2_with (go_at_call 14; refine HT.out.mono ?_; rintro e w1 ⟨rfl, F1, h1, h2, h3⟩)
      go_roundw
      case rel =>
        refine ⟨k + 1, by omega, by go_num, F1, ?_, ?_, ?_⟩
        · rw [tAll_take xs k hlt, ← Hx.out]; exact h1
        · exact (hC.alloc _).then' h2 (fun b hb hf => by have := hF b hf; omega)
        · intro b hb
          rcases h3 b hb with h | h
          · exact hF b h
          · have := hC.size; simp at h; omega
      case measure => simp [intOf]; omega
    · go_wp2_with fail
      go_ret
      have hke : k = xs.length := by omega
      subst hke
      rw [List.take_length] at hT
      exact ⟨_, F, rfl, hT, hC, hF⟩
end Go.Proofs.Ytlbppfdkcaoijaa
