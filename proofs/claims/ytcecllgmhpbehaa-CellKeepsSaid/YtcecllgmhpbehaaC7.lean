/- Make. -/
import Derived.Test.YtcecllgmhpbehaaC6
namespace Go.Proofs.Ytcecllgmhpbehaa
open Go.RowKit

def room (os : List Ob) (lim : Nat) (n : Int) : Prop := 1 ≤ n ∧ n ≤ 64 ∧ n ≤ (lim : Int) - cnt os

set_option maxHeartbeats 1000000 in
theorem makeFull (p : Nat) (os : List Ob) (lim : Nat) (F : Nat → Prop) (base n : Int) (w : World) (h : HeapS w p os lim F) (hr : ¬ room os lim n) :
    Calls Try.prog 7 #[.pointer (some ⟨p, 0, none⟩), .int .i64 base, .int .i64 n] w fun e w' => e = .returned (.tuple #[Cv.zero.enc, .int .u8 6]) ∧ Chg (fun _ => False) w w' := by
  have hC := Lib.hid (chg_alloc (fun _ => False) w (.cells #[.int .u8 0, .int .i64 0, .int .i64 0] 24))
  have h0 := h.chg (hC.out) (fun _ _ e => e)
  have hy := blk_alloc_new w (.cells #[.int .u8 0, .int .i64 0, .int .i64 0] 24)
  have hy0 := cell_of_blk (i := 0) hy rfl
  have hy1 := cell_of_blk (i := 1) hy rfl
  have hy2 := cell_of_blk (i := 2) hy rfl
  have hf0 := frozen_of_blk (i := 0) hy
  have hf1 := frozen_of_blk (i := 1) hy
  have hf2 := frozen_of_blk (i := 2) hy
  obtain ⟨lv, hb, hl, ho, _, _, _, _, h5, h6, _⟩ := h0
  have hc1 := cell_of_blk (i := 1) hb rfl
  have hc2 := cell_of_blk (i := 2) hb rfl
  unfold room at hr
  generalize cnt os = c at *
  clear hl ho hb h
  by_cases h1 : n < 1
  · have h1' : decide (n < 1) = true := by simpa using h1
    clear hr h1
    have Hy := Lib.hid hy
    clear hy
    go_enter Try.func7, Try.ntmps7
    go_wp2
    generalize hbx : w.heap.size = bx at *
    have Hbx := Lib.hid hbx
    clear hbx
    generalize w.alloc (.cells #[.int .u8 0, .int .i64 0, .int .i64 0] 24) = w0 at *
    go_quiet (fail)
    go_wp2
    refine bodyPost_ret (v := .tuple #[Cv.zero.enc, .int .u8 6]) (by simp [results, Try.results7, go_sem, *, Cv.zero, Cv.enc]) rfl ⟨rfl, ?_⟩
    exact (hC.out.drewN nq).then' (T := fun k => k = bx) ((((Chg.refl (fun k => k = bx) _).setCell (fun _ => rfl) _).setCell (fun _ => rfl) _).setCell (fun _ => rfl) _) (fun k hk e => by have := Hbx.out; omega)
  · have h1' : decide (n < 1) = false := by simpa using h1
    by_cases h2 : 64 < n
    · have h2' : decide (64 < n) = true := by simpa using h2
      clear hr h1 h2
      have Hy := Lib.hid hy
      clear hy
      go_enter Try.func7, Try.ntmps7
      go_wp2
      generalize hbx : w.heap.size = bx at *
      have Hbx := Lib.hid hbx
      clear hbx
      generalize w.alloc (.cells #[.int .u8 0, .int .i64 0, .int .i64 0] 24) = w0 at *
      go_quiet (fail)
      go_wp2
      refine bodyPost_ret (v := .tuple #[Cv.zero.enc, .int .u8 6]) (by simp [results, Try.results7, go_sem, *, Cv.zero, Cv.enc]) rfl ⟨rfl, ?_⟩
      exact (hC.out.drewN nq).then' (T := fun k => k = bx) ((((Chg.refl (fun k => k = bx) _).setCell (fun _ => rfl) _).setCell (fun _ => rfl) _).setCell (fun _ => rfl) _) (fun k hk e => by have := Hbx.out; omega)
    · have h2' : decide (64 < n) = false := by simpa using h2
      have h3' : decide ((lim : Int) - c < n) = true := by simp; omega
      clear hr h1 h2
      have Hy := Lib.hid hy
      clear hy
      go_enter Try.func7, Try.ntmps7
      go_wp2
      generalize hbx : w.heap.size = bx at *
      have Hbx := Lib.hid hbx
      clear hbx
      generalize w.alloc (.cells #[.int .u8 0, .int .i64 0, .int .i64 0] 24) = w0 at *
      go_quiet (fail)
      go_wp2
      refine bodyPost_ret (v := .tuple #[Cv.zero.enc, .int .u8 6]) (by simp [results, Try.results7, go_sem, *, Cv.zero, Cv.enc]) rfl ⟨rfl, ?_⟩
      exact (hC.out.drewN nq).then' (T := fun k => k = bx) ((((Chg.refl (fun k => k = bx) _).setCell (fun _ => rfl) _).setCell (fun _ => rfl) _).setCell (fun _ => rfl) _) (fun k hk e => by have := Hbx.out; omega)

theorem made_zero (m : Nat) : (madeCells (Cv.zero.enc).cells (m * 3)).toList = (List.replicate m Cv.zero).flatMap Cv.cells := by
  apply List.ext_getElem?
  intro k
  have hl : (madeCells (Cv.zero.enc).cells (m * 3)).toList.length = m * 3 := by simp [madeCells]
  have hl2 := flat_len Cv.cells Cv.len (List.replicate m Cv.zero)
  rw [List.length_replicate] at hl2
  by_cases hk : k < m * 3
  · have e1 : k = (k / 3) * 3 + k % 3 := by omega
    have hr : k % 3 < 3 := Nat.mod_lt _ (by decide)
    have g := flat_get Cv.cells Cv.len (List.replicate m Cv.zero) (k / 3) (by simp; omega) (k % 3) hr
    rw [← e1] at g
    rw [g, List.getElem_replicate]
    simp only [madeCells, Array.toList_map, Array.toList_range, List.getElem?_map, List.getElem?_range hk, Option.map_some]
    have h3 : k % 3 = 0 ∨ k % 3 = 1 ∨ k % 3 = 2 := by omega
    have hs : (Cv.zero.enc).cells.size = 3 := rfl
    rw [hs]
    rcases h3 with h | h | h <;> rw [h] <;> rfl
  · rw [List.getElem?_eq_none (by omega), List.getElem?_eq_none (by omega)]

theorem info24 : (Try.prog.info? 24).map (fun i => (i.zero, i.size, i.bytes)) = some (some Cv.zero.enc, 3, 24) := by kernel_rfl
theorem info44 : (Try.prog.info? 44).map (fun i => (i.zero, i.size, i.bytes)) = some (some (.pointer none), 1, 8) := by kernel_rfl

theorem run_mk (m : Nat) (hm : m ≤ 64) (w : World) : (Instr.makeSlice 45 (.int .i64 (m : Int)) (.int .i64 (m : Int))).run Try.prog w =
    .ok (.slice (some ⟨w.heap.size, 0, none⟩) m m) (w.alloc (.cells ((List.replicate m Cv.zero).flatMap Cv.cells).toArray 24)) := by
  obtain ⟨i0, hi0, hz0, hz1, hz2⟩ := info_parts info24
  have := run_make (P := Try.prog) w 45 24 i0 _ Try.underlying45 hi0 hz0 .i64 .i64 m m (by omega) (Int.le_refl _) (by rw [hz2]; omega) (by omega)
  rw [this, Int.toNat_natCast, hz1, ← made_zero m]

def MakePost (w : World) (p : Nat) (os : List Ob) (lim : Nat) (F : Nat → Prop) (base : Int) (m : Nat) (e : Ending) (w' : World) : Prop :=
  ∃ pb cb F', e = .returned (.tuple #[.agg #[.int .u8 1, .int .i64 os.length, .int .i64 0], .int .u8 0]) ∧ HeapS w' p (os ++ [⟨pb, cb, base, List.replicate m Cv.zero⟩]) lim F' ∧ Chg F w w' ∧ ∀ b, F' b → F b ∨ w.heap.size ≤ b

set_option maxHeartbeats 2000000 in
theorem makeOk (p : Nat) (os : List Ob) (lim : Nat) (F : Nat → Prop) (base : Int) (m : Nat) (w : World) (h : HeapS w p os lim F) (hr : room os lim m) (hos : os.length < 1000) :
    Calls Try.prog 7 #[.pointer (some ⟨p, 0, none⟩), .int .i64 base, .int .i64 m] w (MakePost w p os lim F base m) := by
  have Hlt := Lib.hid h.lt
  have hC := Lib.hid (chg_alloc (fun _ => False) w (.cells #[.int .u8 0, .int .i64 0, .int .i64 0] 24))
  have h0 := h.chg (hC.out) (fun _ _ e => e)
  have hy := blk_alloc_new w (.cells #[.int .u8 0, .int .i64 0, .int .i64 0] 24)
  obtain ⟨lv, hb, hl, ho, d1, d2, d3, d4, h5, h6, hF⟩ := h0
  have hc1 := cell_of_blk (i := 1) hb rfl
  have hc2 := cell_of_blk (i := 2) hb rfl
  obtain ⟨ad, c0, rfl⟩ := slice_own hl
  unfold room at hr
  have h1' : decide ((m : Int) < 1) = false := by simp; omega
  have h2' : decide (64 < (m : Int)) = false := by simp; omega
  have h3' : decide ((lim : Int) - cnt os < (m : Int)) = false := by simp; omega
  have hm64 : m ≤ 64 := by omega
  have hcl : cnt os + m ≤ lim := by omega
  have hsz : Hid ((w.alloc (.cells #[.int .u8 0, .int .i64 0, .int .i64 0] 24)).heap.size = w.heap.size + 1) := Lib.hid (by simp)
  generalize hcn : cnt os = c at *
  have Hcn := Lib.hid hcn
  have Hy := Lib.hid hy
  have Hb := Lib.hid hb
  have Hl := Lib.hid hl
  have Ho := Lib.hid ho
  have Hd := Lib.hid (And.intro d1 (And.intro d2 (And.intro d3 d4)))
  have HF := Lib.hid hF
  clear hy h hb hl ho hcn d1 d2 d3 d4 hF hr
  go_enter Try.func7, Try.ntmps7
  go_wp2
  generalize hbx : w.heap.size = bx at *
  have Hbx := Lib.hid hbx
  clear hbx
  generalize w.alloc (.cells #[.int .u8 0, .int .i64 0, .int .i64 0] 24) = w0 at *
  go_quiet (fail)
  go_wp2
  clear hc1 hc2
  obtain ⟨wd, hwd⟩ : ∃ wd, wd = w0.drewN (nq + 1) := ⟨_, rfl⟩
  have Hwd := Lib.hid hwd
  have hcd : Chg (fun _ => False) w0 wd := by rw [hwd]; exact chg_drewN _ _ _
  have hwsz : wd.heap.size = w0.heap.size := by rw [hwd]; rfl
  clear hwd
  obtain ⟨wa, hwa⟩ : ∃ wa, wa = wd.alloc (.cells ((List.replicate m Cv.zero).flatMap Cv.cells).toArray 24) := ⟨_, rfl⟩
  obtain ⟨wb, hwb⟩ : ∃ wb, wb = wa.alloc (.cells #[.slice (some ⟨wd.heap.size, 0, none⟩) m m, .int .i64 base] 47) := ⟨_, rfl⟩
  obtain ⟨wc, hwc⟩ : ∃ wc, wc = wb.alloc (.cells #[.pointer (some ⟨wa.heap.size, 0, none⟩)] 44) := ⟨_, rfl⟩
  have hA : Chg (fun _ => False) wd wa := by rw [hwa]; exact chg_alloc _ _ _
  have hB : Chg (fun _ => False) wa wb := by rw [hwb]; exact chg_alloc _ _ _
  have hCc : Chg (fun _ => False) wb wc := by rw [hwc]; exact chg_alloc _ _ _
  have sA : wa.heap.size = wd.heap.size + 1 := by rw [hwa]; simp
  have sB : wb.heap.size = wa.heap.size + 1 := by rw [hwb]; simp
  have sC : wc.heap.size = wb.heap.size + 1 := by rw [hwc]; simp
  have nA : wa.heap[wd.heap.size]? = some (.cells ((List.replicate m Cv.zero).flatMap Cv.cells).toArray 24 (0, 0)) := by rw [hwa]; exact blk_alloc_new _ _
  have nB : wb.heap[wa.heap.size]? = some (.cells #[.slice (some ⟨wd.heap.size, 0, none⟩) m m, .int .i64 base] 47 (0, 0)) := by rw [hwb]; exact blk_alloc_new _ _
  have nC : wc.heap[wb.heap.size]? = some (.cells #[.pointer (some ⟨wa.heap.size, 0, none⟩)] 44 (0, 0)) := by rw [hwc]; exact blk_alloc_new _ _
  have hbd := hcd.blk Hb.out (fun e => e)
  have hba := hA.blk hbd (fun e => e)
  have hbb := hB.blk hba (fun e => e)
  have hbc := hCc.blk hbb (fun e => e)
  have hcdd := cell_of_blk (i := 0) hbd rfl
  have hcaa := cell_of_blk (i := 0) hba rfl
  have hcbb := cell_of_blk (i := 0) hbb rfl
  have hccc := cell_of_blk (i := 0) hbc rfl
  have hrunA := run_mk m hm64 wd
  rw [← hwa] at hrunA
  have Hwb := Lib.hid hwb
  have Hwc := Lib.hid hwc
  have HsA := Lib.hid sA
  have HsB := Lib.hid sB
  have HsC := Lib.hid sC
  have Hwsz := Lib.hid hwsz
  clear hwa hwb hwc
  have hca : Chg (fun _ => False) w0 wc := ((hcd.trans hA).trans hB).trans hCc
  obtain ⟨i0, hi0, hz0, hz1, hz2⟩ := info_parts info44
  obtain ⟨v4, w4, hrun4, g1, g2, g3, g4⟩ := run_append_own_at (P := Try.prog) wc 0 41 41 44 i0 _ 1 8 Try.underlying41 hi0 hz0 hz1 hz2 rfl (by decide)
    (.slice ad os.length c0) os.length _ (owns_chg Hl.out hca (fun _ _ e => e)) ⟨wb.heap.size, 0, none⟩ 1 1 [.pointer (some ⟨wa.heap.size, 0, none⟩)] rfl (World.news_of_block nC) (by simp [Value.oneCell']) (by unfold maxLen; omega) (by omega) (Nat.zero_le _)
  obtain ⟨g, cap, rfl, _, hgl⟩ := g1.form (by omega)
  have Hgg : Hid ((Value.slice ad os.length c0).ownBlock = some g ∨ g = wc.heap.size) := Lib.hid (by simpa [Value.ownBlock, eq_comm] using g4)
  have hC4 : Hid (Chg (fun k => (Value.slice ad os.length c0).ownBlock = some k) wc w4) := Lib.hid ((Chg.refl _ _).grown g2 (fun k hk _ => hk))
  have hb4 := hC4.out.blk hbc Hd.out.1
  have hc4 := cell_of_blk (i := 0) hb4 rfl
  have hf4 := frozen_of_blk (i := 0) hb4
  have hhA := Lib.hid hA
  have hhB := Lib.hid hB
  have hhC := Lib.hid hCc
  have hhcd := Lib.hid hcd
  have Hg1 := Lib.hid g1
  have HnA := Lib.hid nA
  have HnB := Lib.hid nB
  have HnC := Lib.hid nC
  have Hhb4 := Lib.hid hb4
  have Hca := Lib.hid hca
  clear hA hB hCc hcd g1 g2 g3 g4 nA nB nC hz0 hz1 hz2 hi0 hbd hba hbb hbc hb4 hca sA sB sC hwsz
  refine wp_region_fam_lit (by kernel_rfl) (by kernel_rfl) (fun L w' => Hid (w' = if L 14 then w4.setCell ⟨p, 0, none⟩ (.slice (some ⟨g, 0, none⟩) (os.length + 1) cap) else if L 11 then w4 else if L 10 then wc else if L 9 then wb else if L 6 then wa else wd))
    (fun L hL => by rw [hL 14 (by decide), hL 11 (by decide), hL 10 (by decide), hL 9 (by decide), hL 6 (by decide)]; exact Lib.hid Hwd.out.symm) ?_
  iterate 4
    refine wpFam_val (wanted_none rfl) (fun L w' hh => hh) ?_
    apply Exists.intro
    refine ⟨fun L w' _ _ _ hh => ?_, ?_⟩
    · (clear hh; go_simp; rfl)
    go_simp
  refine wpFam_val (wanted_none rfl) (fun L w' hh => hh) ?_
  apply Exists.intro
  refine ⟨fun L w' hcl _ hk hh => ?_, ?_⟩
  · (have q11 := dep_false hcl 20 (i := 11) (j := 4) (by kernel_rfl) hk; have q14 := dep_false hcl 20 (i := 14) (j := 4) (by kernel_rfl) hk; have hh := hh.out; simp only [q11, q14, Bool.false_eq_true, if_false] at hh
     cases q6 : L 6 <;> cases q9 : L 9 <;> cases q10 : L 10 <;> simp only [q6, q9, q10, Bool.false_eq_true, if_false, if_true] at hh <;> subst hh <;> (go_simp; try rfl))
  go_simp
  refine wpFam_val (wanted_none rfl) (fun L w' hh => hh) ?_
  apply Exists.intro
  refine ⟨fun L w' _ _ _ hh => ?_, ?_⟩
  · (clear hh; go_simp; rfl)
  go_simp
  refine wpFam_turn rfl (.slice (some ⟨wd.heap.size, 0, none⟩) m m) (fun L w' hcl _ hk hh => ⟨wa, ?_, ?_⟩) ?_
  · (have q9 := dep_false hcl 20 (i := 9) (j := 6) (by kernel_rfl) hk; have q10 := dep_false hcl 20 (i := 10) (j := 6) (by kernel_rfl) hk; have q11 := dep_false hcl 20 (i := 11) (j := 6) (by kernel_rfl) hk; have q14 := dep_false hcl 20 (i := 14) (j := 6) (by kernel_rfl) hk; have hh := hh.out; simp only [q9, q10, q11, q14, hk, Bool.false_eq_true, if_false] at hh; subst hh; go_simp)
  · (have q9 := dep_false hcl 20 (i := 9) (j := 6) (by kernel_rfl) hk; have q10 := dep_false hcl 20 (i := 10) (j := 6) (by kernel_rfl) hk; have q11 := dep_false hcl 20 (i := 11) (j := 6) (by kernel_rfl) hk; have q14 := dep_false hcl 20 (i := 14) (j := 6) (by kernel_rfl) hk; exact Lib.hid (by simp [doneToo, q9, q10, q11, q14]))
  go_simp
  iterate 2
    refine wpFam_val (wanted_none rfl) (fun L w' hh => hh) ?_
    apply Exists.intro
    refine ⟨fun L w' _ _ _ hh => ?_, ?_⟩
    · (clear hh; go_simp; rfl)
    go_simp
  refine wpFam_turn rfl (.pointer (some ⟨wa.heap.size, 0, none⟩)) (fun L w' hcl hd hk hh => ⟨wb, ?_, ?_⟩) ?_
  · (have q6 := dep_true hcl 20 (i := 8) (j := 6) (by kernel_rfl) (hd ⟨8, .data⟩ (by simp) rfl); have q10 := dep_false hcl 20 (i := 10) (j := 9) (by kernel_rfl) hk; have q11 := dep_false hcl 20 (i := 11) (j := 9) (by kernel_rfl) hk; have q14 := dep_false hcl 20 (i := 14) (j := 9) (by kernel_rfl) hk; have hh := hh.out; simp only [q6, q10, q11, q14, hk, Bool.false_eq_true, if_false, if_true] at hh; rw [hh, Hwb.out]; go_simp)
  · (have q10 := dep_false hcl 20 (i := 10) (j := 9) (by kernel_rfl) hk; have q11 := dep_false hcl 20 (i := 11) (j := 9) (by kernel_rfl) hk; have q14 := dep_false hcl 20 (i := 14) (j := 9) (by kernel_rfl) hk; exact Lib.hid (by simp [doneToo, q10, q11, q14]))
  go_simp
  refine wpFam_turn rfl (.slice (some ⟨wb.heap.size, 0, none⟩) 1 1) (fun L w' hcl hd hk hh => ⟨wc, ?_, ?_⟩) ?_
  · (have q9 : L 9 = true := hd ⟨9, .data⟩ (by simp) rfl; have q11 := dep_false hcl 20 (i := 11) (j := 10) (by kernel_rfl) hk; have q14 := dep_false hcl 20 (i := 14) (j := 10) (by kernel_rfl) hk; have hh := hh.out; simp only [q9, q11, q14, hk, Bool.false_eq_true, if_false, if_true] at hh; rw [hh, Hwc.out]; go_simp)
  · (have q11 := dep_false hcl 20 (i := 11) (j := 10) (by kernel_rfl) hk; have q14 := dep_false hcl 20 (i := 14) (j := 10) (by kernel_rfl) hk; exact Lib.hid (by simp [doneToo, q11, q14]))
  go_simp
  refine wpFam_turn rfl (.slice (some ⟨g, 0, none⟩) (os.length + 1) cap) (fun L w' hcl hd hk hh => ⟨w4, ?_, ?_⟩) ?_
  · (have q14 := dep_false hcl 20 (i := 14) (j := 11) (by kernel_rfl) hk; have q10 : L 10 = true := hd ⟨10, .data⟩ (by simp) rfl; have hh := hh.out; simp only [q10, q14, hk, Bool.false_eq_true, if_false, if_true] at hh; subst hh; exact exec_append rfl rfl rfl hrun4)
  · (have q14 := dep_false hcl 20 (i := 14) (j := 11) (by kernel_rfl) hk; exact Lib.hid (by simp [doneToo, q14]))
  go_simp
  iterate 2
    refine wpFam_val (wanted_none rfl) (fun L w' hh => hh) ?_
    apply Exists.intro
    refine ⟨fun L w' _ _ _ hh => ?_, ?_⟩
    · (clear hh; go_simp; rfl)
    go_simp
  refine wpFam_skip rfl (fun L w' hcl hd hk hh => ⟨w4.setCell ⟨p, 0, none⟩ (.slice (some ⟨g, 0, none⟩) (os.length + 1) cap), ?_, Lib.hid (by simp [doneToo])⟩) ?_
  · (have q11 : L 11 = true := hd ⟨11, .data⟩ (by simp) rfl; have hh := hh.out; simp only [q11, hk, Bool.false_eq_true, if_false, if_true] at hh; subst hh; go_simp)
  go_simp
  refine wpFam_end ?_
  intro L w5 hL hh
  have hh := hh.out
  rw [hL 14 (by decide), if_pos rfl] at hh
  have Hw5 := Lib.hid hh
  clear hh hc4 hf4 hcdd hcaa hcbb hccc hrun4 hrunA
  have hown : ∀ k, (Value.slice ad os.length c0).ownBlock = some k → k < bx := fun k hk => Hlt.out k (by rw [HF.out]; exact .inr (.inl hk))
  have hpx : p < bx := Hlt.out p (by rw [HF.out]; exact .inl rfl)
  have Hown := Lib.hid hown
  have Hpx := Lib.hid hpx
  have hb5 : w5.heap[p]? = some (.cells #[.slice (some ⟨g, 0, none⟩) (os.length + 1) cap, .int .i64 c, .int .i64 lim] 43 (0, 0)) := by
    rw [Hw5.out]; simpa using blk_setCell (i := 0) Hhb4.out (.slice (some ⟨g, 0, none⟩) (os.length + 1) cap)
  have hC5 : Chg (fun k => k = p) w4 w5 := by rw [Hw5.out]; exact chg_setCell _ _ _ _
  have HC5 := Lib.hid hC5
  have hy5 : w5.heap[bx]? = some (.cells #[.int .u8 0, .int .i64 0, .int .i64 0] 24 (0, 0)) :=
    hC5.blk (hC4.out.blk (Hca.out.blk Hy.out (fun e => e)) (fun e => by have := hown _ e; omega)) (fun e => by omega)
  have hp0 := cell_of_blk (i := 0) hb5 rfl
  have hp1 := cell_of_blk (i := 1) hb5 rfl
  have hpf1 := frozen_of_blk (i := 1) hb5
  have hy0 := cell_of_blk (i := 0) hy5 rfl
  have hy1 := cell_of_blk (i := 1) hy5 rfl
  have hy2 := cell_of_blk (i := 2) hy5 rfl
  have hf0 := frozen_of_blk (i := 0) hy5
  have hf1 := frozen_of_blk (i := 1) hy5
  have hf2 := frozen_of_blk (i := 2) hy5
  have hbp : bx ≠ p := by omega
  have hpb : p ≠ bx := by omega
  have Hb5 := Lib.hid hb5
  clear hown hpx hb5 hC5 hy5 hL
  go_wp2
  refine bodyPost_ret (v := .tuple #[.agg #[.int .u8 1, .int .i64 os.length, .int .i64 0], .int .u8 0]) (by simp [results, Try.results7, go_sem, *]) rfl ?_
  have hcn := Hcn.out
  have e0 := Hbx.out
  have e1 := hsz.out
  have e2 := Hwsz.out
  have e3 := HsA.out
  have e4 := HsB.out
  have e5 := HsC.out
  have hpx := Hpx.out
  have key : ∀ wf, wf.heap[p]? = some (.cells #[.slice (some ⟨g, 0, none⟩) (os.length + 1) cap, .int .i64 ((c + m : Nat) : Int), .int .i64 lim] 43 (0, 0)) → Chg (fun k => k = p ∨ k = bx) w5 wf →
      MakePost w p os lim F base m (.returned (.tuple #[.agg #[.int .u8 1, .int .i64 os.length, .int .i64 0], .int .u8 0])) wf := by
    intro wf hpf hcf
    obtain ⟨d1, d2, d3, d4⟩ := Hd.out
    have hg : (Value.slice ad os.length c0).ownBlock = some g ∨ g = bx + 4 := Hgg.out.imp id (fun e => by omega)
    have hgx : g < bx ∨ g = bx + 4 := hg.imp (Hown.out g) id
    have hgp : g ≠ p := by
      rintro rfl
      rcases hg with h | h
      · exact d1 h
      · omega
    have hall : ∀ b o, b ≠ p → b ≠ bx → (Value.slice ad os.length c0).ownBlock ≠ some b → wc.heap[b]? = some o → wf.heap[b]? = some o := by
      intro b o h1 h2 h3 h4
      exact hcf.blk (HC5.out.blk (hC4.out.blk h4 h3) h1) (fun e => e.elim h1 h2)
    have hFo : ∀ o ∈ os, o.pb < bx ∧ o.cb < bx := by
      intro o ho
      exact ⟨Hlt.out _ (by rw [HF.out]; exact .inr (.inr ⟨o, ho, .inl rfl⟩)), Hlt.out _ (by rw [HF.out]; exact .inr (.inr ⟨o, ho, .inr rfl⟩))⟩
    have hown : ∀ b, bx ≤ b → (Value.slice ad os.length c0).ownBlock ≠ some b := fun b hb e => by have := Hown.out b e; omega
    have hobg : (Value.slice (some ⟨g, 0, none⟩) (os.length + 1) cap).ownBlock = some g := rfl
    refine ⟨wa.heap.size, wd.heap.size, _, rfl, ⟨.slice (some ⟨g, 0, none⟩) (os.length + 1) cap, ?_, ?_, ?_, ?_, ?_, ?_, ?_, ?_, h6, rfl⟩, ?_, ?_⟩
    · simpa [cnt, ← hcn] using hpf
    · have h1 := owns_chg Hg1.out (HC5.out) (fun k hk e => hgp (by simpa [Value.ownBlock, e] using hk))
      have h2 := owns_chg h1 hcf (fun k hk e => by simp only [hobg, Option.some.injEq] at hk; omega)
      simpa using h2
    · intro o ho
      rcases List.mem_append.1 ho with ho | ho
      · obtain ⟨k1, k2, k3⟩ := Ho.out o ho
        obtain ⟨k4, k5⟩ := hFo o ho
        obtain ⟨k6, k7, k8, k9⟩ := d2 o ho
        exact ⟨hall _ _ k7 (by omega) k9 (Hca.out.blk k1 (fun e => e)), hall _ _ k6 (by omega) k8 (Hca.out.blk k2 (fun e => e)), k3⟩
      · simp only [List.mem_singleton] at ho
        subst ho
        refine ⟨hall _ _ (show wa.heap.size ≠ p by omega) (show wa.heap.size ≠ bx by omega) (hown wa.heap.size (by omega)) ?_, hall _ _ (show wd.heap.size ≠ p by omega) (show wd.heap.size ≠ bx by omega) (hown wd.heap.size (by omega)) (hhC.out.blk (hhB.out.blk HnA.out (fun e => e)) (fun e => e)), by simp; omega⟩
        simpa using hhC.out.blk HnB.out (fun e => e)
    · simpa [Value.ownBlock] using hgp
    · intro o ho
      simp only [hobg, ne_eq, Option.some.injEq]
      rcases List.mem_append.1 ho with ho | ho
      · obtain ⟨k4, k5⟩ := hFo o ho
        obtain ⟨k6, k7, k8, k9⟩ := d2 o ho
        refine ⟨k6, k7, ?_, ?_⟩ <;> rintro rfl <;> rcases hg with h | h <;> first | omega | contradiction
      · simp only [List.mem_singleton] at ho
        subst ho
        simp only
        omega
    · intro o ho o' ho'
      rcases List.mem_append.1 ho with ho | ho <;> rcases List.mem_append.1 ho' with ho' | ho'
      · exact d3 o ho o' ho'
      · simp only [List.mem_singleton] at ho'
        subst ho'
        have := hFo o ho
        simp only
        omega
      · simp only [List.mem_singleton] at ho
        subst ho
        have := hFo o' ho'
        simp only
        omega
      · simp only [List.mem_singleton] at ho ho'
        subst ho
        subst ho'
        simp only
        omega
    · rw [List.map_append, List.nodup_append]
      refine ⟨d4, by simp, ?_⟩
      intro a ha b hb
      obtain ⟨o, ho, rfl⟩ := List.mem_map.1 ha
      simp only [List.map_cons, List.map_nil, List.mem_singleton] at hb
      have := hFo o ho
      omega
    · simp [cnt] at hcn ⊢
      omega
    · have q1 : Chg F w wc := (hC.out.trans Hca.out).mono (fun _ _ e => e.elim)
      have q2 : Chg F w w4 := q1.then' hC4.out (fun k _ e => by rw [HF.out]; exact Or.inr (Or.inl e))
      have q3 : Chg F w w5 := q2.then' HC5.out (fun k _ e => by rw [HF.out]; exact Or.inl e)
      refine q3.then' hcf (fun k hk e => ?_)
      rcases e with e | e
      · rw [HF.out]; exact Or.inl e
      · omega
    · rintro b (h | h | ⟨o, ho, h⟩)
      · left; rw [HF.out]; exact .inl h
      · simp only [hobg, Option.some.injEq] at h
        subst h
        rcases hg with h | h
        · left; rw [HF.out]; exact .inr (.inl h)
        · right; omega
      · rcases List.mem_append.1 ho with ho | ho
        · left; rw [HF.out]; exact .inr (.inr ⟨o, ho, h⟩)
        · simp only [List.mem_singleton] at ho
          subst ho
          simp only at h
          right; omega
  refine key _ ?_ ?_
  · have h1 := blk_setCell (i := 1) Hb5.out (.int .i64 ((c : Int) + m))
    have h2 := (chg_setCell (w5.setCell ⟨p, 1, none⟩ (.int .i64 ((c : Int) + m))) bx 0 (.int .u8 1))
    have hr := (((Chg.refl (fun k => k = bx) (w5.setCell ⟨p, 1, none⟩ (.int .i64 ((c : Int) + m)))).setCell (a := ⟨bx, 0, none⟩) (fun _ => rfl) (.int .u8 1)).setCell (a := ⟨bx, 1, none⟩) (fun _ => rfl) (.int .i64 os.length)).setCell (a := ⟨bx, 2, none⟩) (fun _ => rfl) (.int .i64 0)
    simpa using hr.blk h1 (by omega)
  · exact ((((Chg.refl (fun k => k = p ∨ k = bx) w5).setCell (a := ⟨p, 1, none⟩) (fun _ => Or.inl rfl) (.int .i64 ((c : Int) + m))).setCell (a := ⟨bx, 0, none⟩) (fun _ => Or.inr rfl) (.int .u8 1)).setCell (a := ⟨bx, 1, none⟩) (fun _ => Or.inr rfl) (.int .i64 os.length)).setCell (a := ⟨bx, 2, none⟩) (fun _ => Or.inr rfl) (.int .i64 0)
end Go.Proofs.Ytcecllgmhpbehaa
