/- Contracts of the table of points. -/
import Derived.Test.YtlbppfdkcaoijaaK1
import Derived.Test.YtlbppfdkcaoijaaA3
import Derived.Test.YtlbppfdkcaoijaaRds
namespace Go.Proofs.Ytlbppfdkcaoijaa
open Go.RowKit

def TabP (w : World) (p : Nat) (xs : List Pt) (F : Nat → Prop) : Prop :=
  ∃ mb lv, w.heap[p]? = some (.cells #[.map (some mb), lv] 77) ∧ MapAt w mb (kvF Pt.enc 0 xs) ∧ w.ownsRow 0 56 3 lv xs.length (xs.flatMap Pt.cells) ∧ p ≠ mb ∧ lv.ownBlock ≠ some p ∧ lv.ownBlock ≠ some mb ∧
    F = fun k => k = p ∨ k = mb ∨ lv.ownBlock = some k
theorem TabP.chg {w w' : World} {p : Nat} {xs : List Pt} {F S : Nat → Prop} (h : TabP w p xs F) (hc : Chg S w w') (hs : ∀ b, F b → ¬ S b) : TabP w' p xs F := by
  obtain ⟨mb, lv, hb, hm, hl, hpm, hlp, hlm, rfl⟩ := h
  exact ⟨mb, lv, hc.blk hb (hs p (.inl rfl)), hm.chg hc (hs mb (.inr (.inl rfl))), owns_chg hl hc (fun k hk => hs k (.inr (.inr hk))), hpm, hlp, hlm, rfl⟩
theorem TabP.lt {w : World} {p : Nat} {xs : List Pt} {F : Nat → Prop} (h : TabP w p xs F) : ∀ b, F b → b < w.heap.size := by
  obtain ⟨mb, lv, hb, hm, hl, hpm, hlp, hlm, rfl⟩ := h
  rintro b (rfl | rfl | h)
  · exact blk_lt hb
  · exact hm.lt
  · exact (hl.lt b h).2

set_option maxHeartbeats 400000 in
theorem lenP (p : Nat) (xs : List Pt) (F : Nat → Prop) (w : World) (h : TabP w p xs F) :
    Calls Try.prog 27 #[.pointer (some ⟨p, 0, none⟩)] w fun e w' => e = .returned (.int .i64 xs.length) ∧ w = w' := by
  obtain ⟨mb, lv, hb, hm, hl, _⟩ := h
  have hc := cell_of_blk (i := 1) hb rfl
  obtain ⟨ad, c, rfl⟩ := slice_of_owns hl
  go_enter Try.func27, Try.ntmps27
  go_wp2
  go_ret
  exact ⟨rfl, rfl⟩

theorem keysP (xs : List Pt) : ∀ p ∈ kvF Pt.enc 0 xs, ∃ q : Pt, p.1 = q.enc := keys_kvF (enc := Pt.enc) (K := fun v => ∃ p : Pt, v = p.enc) (fun a => ⟨a, rfl⟩) 0 xs

/-- The look-up, as the walk meets it. -/
theorem lookP {w : World} {mb : Nat} {xs : List Pt} (hm : MapAt w mb (kvF Pt.enc 0 xs)) (k : Pt) :
    (Instr.lookup 75 (.map (some mb)) (.agg #[.int .i64 k.a, .int .i64 k.b, .int .i64 k.c]) true).run Try.prog w = .ok (found (tIx k xs)) w := by
  have := run_lookup_at koP Try.underlying75 (zero3 w) hm (keysP xs) (k := k.enc) ⟨k, rfl⟩ true
  rw [lookV_kvF Pt.inj k 0 xs] at this
  rw [show Value.agg #[.int .i64 k.a, .int .i64 k.b, .int .i64 k.c] = k.enc from rfl, this]
  cases tIx k xs <;> simp [found]

set_option maxHeartbeats 400000 in
theorem findP (p : Nat) (xs : List Pt) (F : Nat → Prop) (k : Pt) (w : World) (h : TabP w p xs F) :
    Calls Try.prog 29 #[.pointer (some ⟨p, 0, none⟩), .agg #[.int .i64 k.a, .int .i64 k.b, .int .i64 k.c]] w fun e w' => e = .returned (found (tIx k xs)) ∧ Chg (fun _ => False) w w' := by
  have h0 := h.chg (chg_alloc (fun _ => False) w (.cells #[.int .i64 k.a, .int .i64 k.b, .int .i64 k.c] 56)) (fun _ _ e => e)
  obtain ⟨mb, lv, hb, hm, hl, hpm, hlp, hlm, hF⟩ := h0
  have hc := cell_of_blk (i := 0) hb rfl
  have hx := blk_alloc_new w (.cells #[.int .i64 k.a, .int .i64 k.b, .int .i64 k.c] 56)
  have hx0 := cell_of_blk (i := 0) hx rfl
  have hx1 := cell_of_blk (i := 1) hx rfl
  have hx2 := cell_of_blk (i := 2) hx rfl
  have hC : Hid (Chg (fun _ => False) w (w.alloc (.cells #[.int .i64 k.a, .int .i64 k.b, .int .i64 k.c] 56))) := Lib.hid (chg_alloc _ _ _)
  have hrun := fun n => lookP (hm.chg (chg_drewN (fun _ => False) _ n) (fun e => e)) k
  obtain ⟨c, bb, hf⟩ : ∃ c bb, found (tIx k xs) = .tuple #[.int .i64 c, .bool bb] := ⟨_, _, rfl⟩
  rw [hf] at hrun ⊢
  clear hF hlp hlm hl hm hb hx hf
  go_enter Try.func29, Try.ntmps29
  go_wp2
  generalize w.heap.size = bx at *
  generalize w.alloc (.cells #[.int .i64 k.a, .int .i64 k.b, .int .i64 k.c] 56) = w0 at *
  go_quiet (fail)
  go_wp2
  go_ret2
  exact ⟨rfl, hC.out.drewN _⟩

/-- What an Id leaves. -/
def IdPostP (w : World) (p : Nat) (xs : List Pt) (F : Nat → Prop) (k : Pt) (e : Ending) (w' : World) : Prop :=
  e = .returned (.int .i64 (tNo k xs : Nat)) ∧ ∃ F', TabP w' p (tAdd k xs) F' ∧ Chg F w w' ∧ ∀ b, F' b → F b ∨ w.heap.size ≤ b

set_option maxHeartbeats 400000 in
theorem idP_got (p : Nat) (xs : List Pt) (F : Nat → Prop) (k : Pt) (w : World) (h : TabP w p xs F) (i : Nat) (hi : tIx k xs = some i) :
    Calls Try.prog 26 #[.pointer (some ⟨p, 0, none⟩), .agg #[.int .i64 k.a, .int .i64 k.b, .int .i64 k.c]] w fun e w' => e = .returned (.int .i64 i) ∧ Chg (fun _ => False) w w' := by
  have h0 := h.chg (chg_alloc (fun _ => False) w (.cells #[.int .i64 k.a, .int .i64 k.b, .int .i64 k.c] 56)) (fun _ _ e => e)
  obtain ⟨mb, lv, hb, hm, hl, hpm, hlp, hlm, hF⟩ := h0
  have hc := cell_of_blk (i := 0) hb rfl
  have hx := blk_alloc_new w (.cells #[.int .i64 k.a, .int .i64 k.b, .int .i64 k.c] 56)
  have hx0 := cell_of_blk (i := 0) hx rfl
  have hx1 := cell_of_blk (i := 1) hx rfl
  have hx2 := cell_of_blk (i := 2) hx rfl
  have hC : Hid (Chg (fun _ => False) w (w.alloc (.cells #[.int .i64 k.a, .int .i64 k.b, .int .i64 k.c] 56))) := Lib.hid (chg_alloc _ _ _)
  have hrun := fun n => lookP (hm.chg (chg_drewN (fun _ => False) _ n) (fun e => e)) k
  rw [hi] at hrun
  simp only [found, Option.getD_some, Option.isSome_some] at hrun
  clear hF hlp hlm hl hm hb hx h hi
  go_enter Try.func26, Try.ntmps26
  go_wp2
  generalize w.heap.size = bx at *
  generalize w.alloc (.cells #[.int .i64 k.a, .int .i64 k.b, .int .i64 k.c] 56) = w0 at *
  go_quiet (fail)
  go_wp2
  go_ret
  exact ⟨rfl, hC.out.drewN _⟩

theorem info56 : (Try.prog.info? 56).map (fun i => (i.zero, i.size, i.bytes)) = some (some (.agg #[.int .i64 0, .int .i64 0, .int .i64 0]), 3, 24) := by kernel_rfl

set_option maxHeartbeats 1000000 in
theorem idP_new (p : Nat) (xs : List Pt) (F : Nat → Prop) (k : Pt) (w : World) (h : TabP w p xs F) (hn : xs.length < 1000000) (hi : tIx k xs = none) :
    Calls Try.prog 26 #[.pointer (some ⟨p, 0, none⟩), .agg #[.int .i64 k.a, .int .i64 k.b, .int .i64 k.c]] w (IdPostP w p xs F k) := by
  have hlt0 := h.lt
  have Hlt := Lib.hid hlt0
  clear hlt0
  have h0 := h.chg (chg_alloc (fun _ => False) w (.cells #[.int .i64 k.a, .int .i64 k.b, .int .i64 k.c] 56)) (fun _ _ e => e)
  obtain ⟨mb, lv, hb, hm, hl, hpm, hlp, hlm, hF⟩ := h0
  obtain ⟨ad, c, rfl⟩ := slice_of_owns hl
  have hc := cell_of_blk (i := 0) hb rfl
  have hc1 := cell_of_blk (i := 1) hb rfl
  have hx := blk_alloc_new w (.cells #[.int .i64 k.a, .int .i64 k.b, .int .i64 k.c] 56)
  have hx0 := cell_of_blk (i := 0) hx rfl
  have hx1 := cell_of_blk (i := 1) hx rfl
  have hx2 := cell_of_blk (i := 2) hx rfl
  have hC : Hid (Chg (fun _ => False) w (w.alloc (.cells #[.int .i64 k.a, .int .i64 k.b, .int .i64 k.c] 56))) := Lib.hid (chg_alloc _ _ _)
  have hrun := fun n => lookP (hm.chg (chg_drewN (fun _ => False) _ n) (fun e => e)) k
  rw [hi] at hrun
  simp only [found, Option.getD_none, Option.isSome_none] at hrun
  have Hi := Lib.hid hi
  have HF := Lib.hid hF
  clear hF h hi
  go_enter Try.func26, Try.ntmps26
  go_wp2
  have hbx : p < w.heap.size ∧ mb < w.heap.size ∧ (∀ g, (Value.slice ad xs.length c).ownBlock = some g → g < w.heap.size) := by
    refine ⟨Hlt.out p ?_, Hlt.out mb ?_, fun g hg => Hlt.out g ?_⟩ <;> rw [HF.out] <;> simp [*]
  have Hbx := Lib.hid hbx
  clear hbx
  have hsz : Hid ((w.alloc (.cells #[.int .i64 k.a, .int .i64 k.b, .int .i64 k.c] 56)).heap.size = w.heap.size + 1) := Lib.hid (by simp)
  generalize hbxe : w.heap.size = bx at *
  generalize w.alloc (.cells #[.int .i64 k.a, .int .i64 k.b, .int .i64 k.c] 56) = w0 at *
  have Hbxe := Lib.hid hbxe
  clear hbxe
  go_quiet (fail)
  go_wp2
  have hcl1 := Lib.hid (show Chg (fun _ => False) w0 (w0.drewN (nq + 1)) from chg_drewN _ _ _)
  have hb1 := hcl1.out.blk hb (fun e => e)
  have hxb1 := hcl1.out.blk hx (fun e => e)
  have hm1 := hm.chg hcl1.out (fun e => e)
  have hl1 := owns_chg hl hcl1.out (fun _ _ e => e)
  have hput := putV_kvF Pt.inj k 0 xs Hi.out
  rw [Nat.zero_add] at hput
  obtain ⟨w2, hrun2, hm2, hg2⟩ := run_mapUpdate_at koP Try.underlying75 hm1 (keysP xs) (k := k.enc) ⟨k, rfl⟩ (.int .i64 xs.length)
  rw [hput] at hm2
  have hb2 := hg2.blk hb1 hpm
  have hbxm : bx ≠ mb := by have := Hbx.out.2.1; omega
  have hxb2 := hg2.blk hxb1 hbxm
  have hl2 := owns_chg hl1 hg2 (fun k hk e => hlm (e ▸ hk))
  have hC2 : Hid (Chg F w w2) := Lib.hid (((hC.out.mono (fun _ _ e => e.elim)).trans (hcl1.out.mono (fun _ _ e => e.elim))).trans (hg2.mono (fun _ _ e => by rw [HF.out]; exact .inr (.inl e))))
  clear hput hm1 hb1 hxb1 hl1 hm hl hb hx hrun
  have Hrun2 : (Instr.mapUpdate 75 (.map (some mb)) (.agg #[.int .i64 k.a, .int .i64 k.b, .int .i64 k.c]) (.int .i64 xs.length)).run Try.prog (w0.drewN (nq + 1)) = .ok () w2 := hrun2
  clear hrun2
  refine wp_region_fam_lit (by kernel_rfl) (by kernel_rfl) (fun L w' => Hid (w' = if L 6 then w2 else w0.drewN (nq + 1))) (fun L hL => by rw [hL 6 (by decide)]; exact Lib.hid rfl) ?_
  refine wpFam_val (wanted_none rfl) (fun L w' hh => hh) ?_
  apply Exists.intro
  refine ⟨fun L w' _ _ _ hh => ?_, ?_⟩
  · (clear hh; go_simp; rfl)
  go_simp
  refine wpFam_val (wanted_none rfl) (fun L w' hh => hh) ?_
  apply Exists.intro
  refine ⟨fun L w' _ _ _ hh => ?_, ?_⟩
  · (clear hh; go_simp; rfl)
  go_simp
  refine wpFam_val (wanted_none rfl) (fun L w' hh => hh) ?_
  apply Exists.intro
  refine ⟨fun L w' _ _ _ hh => ?_, ?_⟩
  · (clear hh; go_simp; rfl)
  go_simp
  refine wpFam_val (wanted_none rfl) (fun L w' hh => hh) ?_
  apply Exists.intro
  refine ⟨fun L w' hcl _ hk hh => ?_, ?_⟩
  · (have q6 := dep_false hcl 20 (i := 6) (j := 3) (by kernel_rfl) hk; have hh := hh.out; simp only [q6, Bool.false_eq_true, if_false] at hh; subst hh; go_simp; rfl)
  go_simp
  refine wpFam_val (wanted_none rfl) (fun L w' hh => hh) ?_
  apply Exists.intro
  refine ⟨fun L w' hcl _ hk hh => ?_, ?_⟩
  · (have q6 := dep_false hcl 20 (i := 6) (j := 4) (by kernel_rfl) hk; have hh := hh.out; simp only [q6, Bool.false_eq_true, if_false] at hh; subst hh; go_simp; rfl)
  go_simp
  refine wpFam_val (wanted_none rfl) (fun L w' hh => hh) ?_
  apply Exists.intro
  refine ⟨fun L w' _ _ _ hh => ?_, ?_⟩
  · (clear hh; go_simp; rfl)
  go_simp
  refine wpFam_skip rfl (fun L w' hcl _ hk hh => ⟨w2, ?_, Lib.hid (by simp [doneToo])⟩) ?_
  · (have hh := hh.out; simp only [hk, Bool.false_eq_true, if_false] at hh; subst hh; go_simp)
  go_simp
  refine wpFam_end ?_
  intro L w3 hL hh
  have hh := hh.out
  rw [hL 6 (by decide), if_pos rfl] at hh
  subst hh
  clear Hrun2 hc hc1 hx0 hx1 hx2 hL
  have hld := Lib.hid (show Chg (fun _ => False) w3 w3.drew from (Chg.refl _ _).drew)
  have hcl3 := Lib.hid (show Chg (fun _ => False) w3 ((w3.alloc (.cells #[.int .i64 k.a, .int .i64 k.b, .int .i64 k.c] 56)).drew) from ((Chg.refl _ _).alloc _).drew)
  obtain ⟨i0, hi0, hz0, hz1, hz2⟩ := info_parts info56
  obtain ⟨v4, w4, hrun4, g1, g2, g3, g4⟩ := run_append_own_at (P := Try.prog) ((w3.alloc (.cells #[.int .i64 k.a, .int .i64 k.b, .int .i64 k.c] 56)).drew) 0 52 52 56 i0 _ 3 24 Try.underlying52 hi0 hz0 hz1 hz2 rfl (by decide)
    (.slice ad xs.length c) xs.length (xs.flatMap Pt.cells) (owns_chg hl2 hcl3.out (fun _ _ e => e)) ⟨w3.heap.size, 0, none⟩ 1 1 k.cells rfl (World.news_of_block (w := (w3.alloc (.cells #[.int .i64 k.a, .int .i64 k.b, .int .i64 k.c] 56)).drew) (blk_alloc_new w3 _)) (by simp [Pt.cells, Value.oneCell']) (by unfold maxLen; omega) (by omega) (Nat.zero_le _)
  obtain ⟨g, cap, rfl, _, hgl⟩ := g1.form (by omega)
  have hgg : (Value.slice ad xs.length c).ownBlock = some g ∨ g = w3.heap.size + 1 := by
    simpa [Value.ownBlock, eq_comm] using g4
  have hC4 : Hid (Chg (fun k => (Value.slice ad xs.length c).ownBlock = some k) w3 w4) := Lib.hid ((hcl3.out.mono (fun _ _ e => e.elim)).trans ((Chg.refl _ _).grown g2 (fun k hk _ => hk)))
  have hb4 := hC4.out.blk hb2 hlp
  have hc4 := cell_of_blk (i := 1) hb4 rfl
  have hf4 := frozen_of_blk (i := 1) hb4
  have hc3 := cell_of_blk (i := 1) hb2 rfl
  have hx0 := cell_of_blk (i := 0) hxb2 rfl
  have hx1 := cell_of_blk (i := 1) hxb2 rfl
  have hx2 := cell_of_blk (i := 2) hxb2 rfl
  have hc3a := (chg_alloc (fun _ => False) w3 (.cells #[.int .i64 k.a, .int .i64 k.b, .int .i64 k.c] 56)).cell hc3 (fun e => e)
  have Hg := Lib.hid hgg
  have Hg1 := Lib.hid g1
  clear hgg g1 g2 g3 g4 hb2 hl2 hz0 hz1 hz2 hi0
  go_wp2
  refine wp_region_fam_lit (by kernel_rfl) (by kernel_rfl) (fun L w' => Hid (w' = if L 10 then w4.setCell ⟨p, 1, none⟩ (.slice (some ⟨g, 0, none⟩) (xs.length + 1) cap) else if L 7 then w4 else if L 6 then (w3.alloc (.cells #[.int .i64 k.a, .int .i64 k.b, .int .i64 k.c] 56)).drew else w3.drew))
    (fun L hL => by rw [hL 10 (by decide), hL 7 (by decide), hL 6 (by decide)]; exact Lib.hid rfl) ?_
  refine wpFam_val (wanted_none rfl) (fun L w' hh => hh) ?_
  apply Exists.intro
  refine ⟨fun L w' _ _ _ hh => ?_, ?_⟩
  · (clear hh; go_simp; rfl)
  go_simp
  refine wpFam_val (wanted_none rfl) (fun L w' hh => hh) ?_
  apply Exists.intro
  refine ⟨fun L w' _ _ _ hh => ?_, ?_⟩
  · (clear hh; go_simp; rfl)
  go_simp
  refine wpFam_val (wanted_none rfl) (fun L w' hh => hh) ?_
  apply Exists.intro
  refine ⟨fun L w' _ _ _ hh => ?_, ?_⟩
  · (clear hh; go_simp; rfl)
  go_simp
  refine wpFam_val (wanted_none rfl) (fun L w' hh => hh) ?_
  apply Exists.intro
  refine ⟨fun L w' _ _ _ hh => ?_, ?_⟩
  · (clear hh; go_simp; rfl)
  go_simp
  refine wpFam_val (wanted_none rfl) (fun L w' hh => hh) ?_
  apply Exists.intro
  refine ⟨fun L w' hcl _ hk hh => ?_, ?_⟩
  · (have q7 := dep_false hcl 20 (i := 7) (j := 4) (by kernel_rfl) hk; have q10 := dep_false hcl 20 (i := 10) (j := 4) (by kernel_rfl) hk; have hh := hh.out; simp only [q7, q10, Bool.false_eq_true, if_false] at hh; cases q6 : L 6 <;> simp only [q6, Bool.false_eq_true, if_false, if_true] at hh <;> subst hh <;> (go_simp; try rfl))
  go_simp
  refine wpFam_val (wanted_none rfl) (fun L w' hh => hh) ?_
  apply Exists.intro
  refine ⟨fun L w' hcl _ hk hh => ?_, ?_⟩
  · (have q6 := dep_false hcl 20 (i := 6) (j := 5) (by kernel_rfl) hk; have q7 := dep_false hcl 20 (i := 7) (j := 5) (by kernel_rfl) hk; have q10 := dep_false hcl 20 (i := 10) (j := 5) (by kernel_rfl) hk; have hh := hh.out; simp only [q6, q7, q10, Bool.false_eq_true, if_false] at hh; subst hh; go_simp; rfl)
  go_simp
  refine wpFam_turn rfl (.slice (some ⟨w3.heap.size, 0, none⟩) 1 1) (fun L w' hcl _ hk hh => ⟨(w3.alloc (.cells #[.int .i64 k.a, .int .i64 k.b, .int .i64 k.c] 56)).drew, ?_, ?_⟩) ?_
  · (have q7 := dep_false hcl 20 (i := 7) (j := 6) (by kernel_rfl) hk; have q10 := dep_false hcl 20 (i := 10) (j := 6) (by kernel_rfl) hk; have hh := hh.out; simp only [q7, q10, hk, Bool.false_eq_true, if_false] at hh; subst hh; go_simp)
  · (have q7 := dep_false hcl 20 (i := 7) (j := 6) (by kernel_rfl) hk; have q10 := dep_false hcl 20 (i := 10) (j := 6) (by kernel_rfl) hk; exact Lib.hid (by simp [doneToo, q7, q10]))
  go_simp
  refine wpFam_turn rfl (.slice (some ⟨g, 0, none⟩) (xs.length + 1) cap) (fun L w' hcl hd hk hh => ⟨w4, ?_, ?_⟩) ?_
  · (have q10 := dep_false hcl 20 (i := 10) (j := 7) (by kernel_rfl) hk; have q6 : L 6 = true := hd ⟨6, .data⟩ (by simp) rfl; have hh := hh.out; simp only [q6, q10, hk, Bool.false_eq_true, if_false, if_true] at hh; subst hh; exact exec_append rfl rfl rfl hrun4)
  · (have q10 := dep_false hcl 20 (i := 10) (j := 7) (by kernel_rfl) hk; exact Lib.hid (by simp [doneToo, q10]))
  go_simp
  refine wpFam_val (wanted_none rfl) (fun L w' hh => hh) ?_
  apply Exists.intro
  refine ⟨fun L w' _ _ _ hh => ?_, ?_⟩
  · (clear hh; go_simp; rfl)
  go_simp
  refine wpFam_val (wanted_none rfl) (fun L w' hh => hh) ?_
  apply Exists.intro
  refine ⟨fun L w' _ _ _ hh => ?_, ?_⟩
  · (clear hh; go_simp; rfl)
  go_simp
  refine wpFam_skip rfl (fun L w' hcl hd hk hh => ⟨w4.setCell ⟨p, 1, none⟩ (.slice (some ⟨g, 0, none⟩) (xs.length + 1) cap), ?_, Lib.hid (by simp [doneToo])⟩) ?_
  · (have q7 : L 7 = true := hd ⟨7, .data⟩ (by simp) rfl; have hh := hh.out; simp only [q7, hk, Bool.false_eq_true, if_false, if_true] at hh; subst hh; go_simp)
  go_simp
  refine wpFam_end ?_
  intro L w5 hL hh
  have hh := hh.out
  rw [hL 10 (by decide), if_pos rfl] at hh
  have Hw5 := Lib.hid hh
  clear hh hc4 hf4 hc3 hc3a hx0 hx1 hx2 hrun4
  go_wp2
  go_ret
  have hs2 := hC2.out.size
  have hbb := Hbx.out
  have hbe := Hbxe.out
  have hgn : Hid ((Value.slice ad xs.length c).ownBlock = some g ∨ w.heap.size ≤ g) := Hg.out.imp id (fun e => by omega)
  have hgp : g ≠ p := by rintro rfl; rcases hgn.out with h | h; exact hlp h; omega
  have hgm : g ≠ mb := by rintro rfl; rcases hgn.out with h | h; exact hlm h; omega
  have hw := chg_setCell w4 p 1 (.slice (some ⟨g, 0, none⟩) (xs.length + 1) cap)
  rw [Hw5.out]
  refine ⟨by simp [tNo, Hi.out], _, ⟨mb, .slice (some ⟨g, 0, none⟩) (xs.length + 1) cap, ?_, ?_, ?_, hpm, ?_, ?_, rfl⟩, ?_, ?_⟩
  · have := blk_setCell (i := 1) hb4 (.slice (some ⟨g, 0, none⟩) (xs.length + 1) cap)
    simpa using this
  · simp only [tAdd, Hi.out]; exact (hm2.chg hC4.out hlm).chg hw (Ne.symm hpm)
  · have := owns_chg Hg1.out hw (fun k hk e => hgp (by simpa [Value.ownBlock, e] using hk))
    simpa [tAdd, Hi.out] using this
  · simpa [Value.ownBlock] using hgp
  · simpa [Value.ownBlock] using hgm
  · refine (hC2.out.trans (hC4.out.mono (fun k _ e => ?_))).trans (hw.mono (fun k _ e => ?_))
    · rw [HF.out]; exact .inr (.inr e)
    · rw [HF.out]; exact .inl e
  · rw [HF.out]
    rintro b (h | h | h)
    · exact .inl (.inl h)
    · exact .inl (.inr (.inl h))
    · simp only [Value.ownBlock, Option.some.injEq] at h
      subst h
      rcases hgn.out with h | h
      · exact .inl (.inr (.inr h))
      · exact .inr h

theorem idP (p : Nat) (xs : List Pt) (F : Nat → Prop) (k : Pt) (w : World) (h : TabP w p xs F) (hn : xs.length < 1000000) :
    Calls Try.prog 26 #[.pointer (some ⟨p, 0, none⟩), .agg #[.int .i64 k.a, .int .i64 k.b, .int .i64 k.c]] w (IdPostP w p xs F k) := by
  cases hi : tIx k xs with
  | none => exact idP_new p xs F k w h hn hi
  | some i =>
    refine (idP_got p xs F k w h i hi).mono ?_
    rintro e w' ⟨rfl, hC⟩
    exact ⟨by simp [tNo, hi], F, by simpa [tAdd, hi] using h.chg hC (fun _ _ e => e), hC.mono (fun _ _ e => e.elim), fun _ h => .inl h⟩

def NewPostP (w : World) (xs : List Pt) (e : Ending) (w' : World) : Prop :=
  ∃ p F, e = .returned (.pointer (some ⟨p, 0, none⟩)) ∧ TabP w' p (tAll xs) F ∧ Chg (fun _ => False) w w' ∧ (∀ b, F b → w.heap.size ≤ b)
def NewRelP (w : World) (p : Nat) (xs : List Pt) (k : Nat) (wr : World) : Prop :=
  ∃ F, TabP wr p (tAll (xs.take k)) F ∧ Chg (fun _ => False) w wr ∧ (∀ b, F b → w.heap.size ≤ b)

set_option maxHeartbeats 400000 in
theorem newP (v : Value) (xs : List Pt) (G : Nat → Prop) (w : World) (h : Rd w v 3 xs.length (xs.flatMap Pt.cells) G) (hn : xs.length < 1000000) :
    Calls Try.prog 25 #[v] w (NewPostP w xs) := by
  obtain ⟨hlen, hmax, ad, cap, rfl, h4, h5, h6, h7⟩ := h
  have hmm := @run_makeMap Try.prog
  clear h4 h5 h6 hlen hmax
  go_enter Try.func25, Try.ntmps25
  go_wp2_with fail
  go_loopw [11] (fun i wr => ∃ k : Nat, k ≤ xs.length ∧ i = .int .i64 k ∧ NewRelP w (w.heap.size + 1) xs k wr) (fun i _ => xs.length - (intOf i).toNat)
  case atStart =>
    refine ⟨0, Nat.zero_le _, rfl, _, ⟨w.heap.size, .slice none 0 0, ?_, ?_, ?_, by omega, by simp [Value.ownBlock], by simp [Value.ownBlock], rfl⟩, ?_, ?_⟩
    · have := blk_alloc_new (w.alloc (.map #[] 0)) (.cells #[.map (some w.heap.size), .slice none 0 0] 77)
      simpa using this
    · exact (mapAt_made w).chg (chg_alloc (fun _ => False) _ _) (fun e => e)
    · exact World.ownsRow_nil _ _ _ _
    · exact ((Chg.refl _ _).alloc _).alloc _
    · rintro b (rfl | rfl | h)
      · omega
      · omega
      · simp [Value.ownBlock] at h
  case round =>
    obtain ⟨k, hk, rfl, F, hT, hC, hF⟩ := hrel
    by_cases hlt : k < xs.length
    · obtain ⟨b, off, rfl, hG, hcl⟩ : ∃ b off, ad = some ⟨b, off, none⟩ ∧ _ ∧ _ := h7.resolve_left (by omega)
      obtain ⟨x, hx⟩ : ∃ x, x = xs[k] := ⟨_, rfl⟩
      have hcx : ∀ j u, x.cells[j]? = some u → wr.cell? ⟨b, off + (k * 3 + j), none⟩ = some u := by
        intro j u hu
        refine hC.cell (hcl _ _ ?_) (fun e => e)
        have hj3 : j < 3 := (List.getElem?_eq_some_iff.1 hu).1
        rw [flat_get Pt.cells (fun _ => rfl) xs k hlt j hj3, ← hx]
        exact hu
      have hc0 : wr.cell? ⟨b, off + k * 3, none⟩ = some (.int .i64 x.a) := hcx 0 _ rfl
      have hc1 : wr.cell? ⟨b, off + k * 3 + 1, none⟩ = some (.int .i64 x.b) := hcx 1 _ rfl
      have hc2 : wr.cell? ⟨b, off + k * 3 + 2, none⟩ = some (.int .i64 x.c) := hcx 2 _ rfl
      have hb1 : (0 : Int) ≤ (k : Int) := by omega
      have hb2 : (k : Int) < xs.length := by omega
      have hca := chg_alloc (fun _ => False) wr (.cells #[.int .i64 x.a, .int .i64 x.b, .int .i64 x.c] 56)
      have hT' := idP (w.heap.size + 1) _ F x _ (hT.chg hca (fun _ _ e => e)) (by have := tAll_len (xs.take k); simp at this; omega)
      have HT := Lib.hid hT'
      have Hx := Lib.hid hx
      clear hT' hcl h7 hcx hx
      go_wp2_with (go_at_call 26; refine HT.out.mono ?_; rintro e w1 ⟨rfl, F1, h1, h2, h3⟩)
      go_roundw
      case rel =>
        refine ⟨k + 1, by omega, by go_num, F1, ?_, ?_, ?_⟩
        · rw [tAll_take xs k hlt, ← Hx.out]; exact h1
        · exact (hC.alloc _).then' h2 (fun b hb hf => by have := hF b hf; omega)
        · intro b hb
          rcases h3 b hb with h | h
          · exact hF b h
          · have := hC.size; simp at h; omega
      case measure => simp [intOf]; omega
    · go_wp2_with fail
      go_ret
      have hke : k = xs.length := by omega
      subst hke
      rw [List.take_length] at hT
      exact ⟨_, F, rfl, hT, hC, hF⟩
end Go.Proofs.Ytlbppfdkcaoijaa
