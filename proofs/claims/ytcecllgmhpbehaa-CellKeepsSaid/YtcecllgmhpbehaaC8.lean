/- Step and Thing, where wakes uses them; wakes. -/
import Derived.Test.YtcecllgmhpbehaaC7
namespace Go.Proofs.Ytcecllgmhpbehaa
open Go.RowKit

set_option maxHeartbeats 1000000 in
theorem step1 (ob : Ob) (x : Cv) (bk bq bi : Nat) (w : World) (h : At w ob 0 x) (hl : ob.vs.length = 2)
    (hk : w.cell? ⟨bk, 0, none⟩ = some (.int .i64 1)) (hq : w.cell? ⟨bq, 2, none⟩ = some (.int .i64 0)) (hv : w.heap[bi]? = some (.cells #[.bool false] 4 (0, 0))) :
    Calls Try.prog 16 #[.pointer (some ⟨ob.pb, 0, none⟩), .pointer (some ⟨bk, 0, none⟩), .pointer (some ⟨bq, 0, none⟩), .pointer (some ⟨bi, 0, none⟩)] w fun e w' => e = .returned (.tuple #[]) ∧ w'.heap[bi]? = some (.cells #[.bool true] 4 (0, 0)) ∧ Chg (· = bi) w w' := by
  obtain ⟨h0, _, _, _, _⟩ := h
  rw [hl] at h0
  generalize ob.pb = pb at *
  generalize ob.cb = cb at *
  have hv0 := cell_of_blk (i := 0) hv rfl
  have hvf0 := frozen_of_blk (i := 0) hv
  obtain ⟨ws, hws⟩ : ∃ ws, ws = (w.setCell ⟨bi, 0, none⟩ (.bool true)).drew := ⟨_, rfl⟩
  have Hws := Lib.hid hws
  have Hv := Lib.hid hv
  clear hws hv
  go_enter Try.func16, Try.ntmps16
  go_wp2
  refine wp_region_fam_lit (by kernel_rfl) (by kernel_rfl) (fun L w' => Hid (w' = if L 17 then ws else w.drew)) (fun L hL => by rw [hL 17 (by decide)]; exact Lib.hid rfl) ?_
  iterate 17 fam_step 17
  refine wpFam_skip rfl (fun L w' hcl _ hk hh => ⟨ws, ?_, Lib.hid (by simp [doneToo])⟩) ?_
  · (have hh := hh.out; simp only [hk, Bool.false_eq_true, if_false] at hh; subst hh; rw [Hws.out]; go_simp; simp [IntKind.wrap_i64])
  go_simp
  refine wpFam_end ?_
  intro L w' hL hh
  have hh := hh.out
  rw [hL 17 (by decide), if_pos rfl] at hh
  subst hh
  go_wp2
  refine ⟨rfl, .tuple #[], by simp [results, Try.f16, go_sem], rfl, ?_, ?_⟩
  · rw [Hws.out]
    exact blk_setCell (i := 0) Hv.out (.bool true)
  · rw [Hws.out]
    exact ((Chg.refl (fun k => k = bi) w).setCell (a := ⟨bi, 0, none⟩) (fun _ => rfl) _).drew

set_option maxHeartbeats 1000000 in
theorem thing1 (ob : Ob) (x : Cv) (bq bi : Nat) (w : World) (h : At w ob 1 x) (hl : ob.base = 5)
    (hq : w.cell? ⟨bq, 2, none⟩ = some (.int .i64 1)) (hv : w.heap[bi]? = some (.cells #[.int .i64 0] 3 (0, 0))) :
    Calls Try.prog 17 #[.pointer (some ⟨ob.pb, 0, none⟩), .pointer (some ⟨bq, 0, none⟩), .pointer (some ⟨bi, 0, none⟩)] w fun e w' => e = .returned (.tuple #[]) ∧ w'.heap[bi]? = some (.cells #[.int .i64 6] 3 (0, 0)) ∧ Chg (· = bi) w w' := by
  obtain ⟨_, h0, _, _, _⟩ := h
  rw [hl] at h0
  generalize ob.pb = pb at *
  have hv0 := cell_of_blk (i := 0) hv rfl
  have hvf0 := frozen_of_blk (i := 0) hv
  obtain ⟨ws, hws⟩ : ∃ ws, ws = (w.setCell ⟨bi, 0, none⟩ (.int .i64 6)).drew := ⟨_, rfl⟩
  have Hws := Lib.hid hws
  have Hv := Lib.hid hv
  clear hws hv
  go_enter Try.func17, Try.ntmps17
  go_wp2
  refine wp_region_fam_lit (by kernel_rfl) (by kernel_rfl) (fun L w' => Hid (w' = if L 7 then ws else w.drew)) (fun L hL => by rw [hL 7 (by decide)]; exact Lib.hid rfl) ?_
  iterate 7 fam_step 7
  refine wpFam_skip rfl (fun L w' hcl _ hk hh => ⟨ws, ?_, Lib.hid (by simp [doneToo])⟩) ?_
  · (have hh := hh.out; simp only [hk, Bool.false_eq_true, if_false] at hh; subst hh; rw [Hws.out]; go_simp; simp [IntKind.wrap_i64])
  go_simp
  refine wpFam_end ?_
  intro L w' hL hh
  have hh := hh.out
  rw [hL 7 (by decide), if_pos rfl] at hh
  subst hh
  go_wp2
  refine ⟨rfl, .tuple #[], by simp [results, Try.f17, go_sem], rfl, ?_, ?_⟩
  · rw [Hws.out]
    exact blk_setCell (i := 0) Hv.out (.int .i64 6)
  · rw [Hws.out]
    exact ((Chg.refl (fun k => k = bi) w).setCell (a := ⟨bi, 0, none⟩) (fun _ => rfl) _).drew

set_option maxHeartbeats 1000000 in
theorem stepS (p : Nat) (os : List Ob) (lim : Nat) (F : Nat → Prop) (ob : Ob) (x y : Cv) (w : World) (h : HeapS w p os lim F) (hi : os[0]? = some ob) (hvs : ob.vs = [x, y]) :
    Calls Try.prog 11 #[.pointer (some ⟨p, 0, none⟩), .agg #[.int .u8 1, .int .i64 0, .int .i64 0], .int .i64 1] w fun e w' => e = .returned (.tuple #[.agg #[.int .u8 1, .int .i64 0, .int .i64 1], .int .u8 0]) ∧ Chg (fun _ => False) w w' := by
  have hC := Lib.hid (((((Chg.refl (fun _ => False) w).alloc (.cells #[.int .u8 1, .int .i64 0, .int .i64 0] 24)).alloc (.cells #[.int .i64 1] 3)).alloc (.cells #[.int .u8 0, .int .i64 0, .int .i64 0] 24)).alloc (.cells #[.bool false] 4))
  have h0 := h.chg (hC.out) (fun _ _ e => e)
  have b0 := blk_alloc_new w (.cells #[.int .u8 1, .int .i64 0, .int .i64 0] 24)
  have b1 := blk_alloc_new (w.alloc (.cells #[.int .u8 1, .int .i64 0, .int .i64 0] 24)) (.cells #[.int .i64 1] 3)
  have b2 := blk_alloc_new ((w.alloc (.cells #[.int .u8 1, .int .i64 0, .int .i64 0] 24)).alloc (.cells #[.int .i64 1] 3)) (.cells #[.int .u8 0, .int .i64 0, .int .i64 0] 24)
  have b3 := blk_alloc_new (((w.alloc (.cells #[.int .u8 1, .int .i64 0, .int .i64 0] 24)).alloc (.cells #[.int .i64 1] 3)).alloc (.cells #[.int .u8 0, .int .i64 0, .int .i64 0] 24)) (.cells #[.bool false] 4)
  simp only [World.size_alloc] at b1 b2 b3
  have hx := blk_alloc (blk_alloc (blk_alloc b0 (.cells #[.int .i64 1] 3)) (.cells #[.int .u8 0, .int .i64 0, .int .i64 0] 24)) (.cells #[.bool false] 4)
  have hk := blk_alloc (blk_alloc b1 (.cells #[.int .u8 0, .int .i64 0, .int .i64 0] 24)) (.cells #[.bool false] 4)
  have hv := blk_alloc b2 (.cells #[.bool false] 4)
  have hlen : ob.vs.length = 2 := by simp [hvs]
  obtain ⟨ha, _, _⟩ := h0.at hi (j := 0) (x := x) (by simp [hvs])
  have HW := Lib.hid (withGo p os lim F 0 0 ob 16 #[.pointer (some ⟨w.heap.size + 1, 0, none⟩), .pointer (some ⟨w.heap.size, 0, none⟩), .pointer (some ⟨w.heap.size + 1 + 1 + 1, 0, none⟩)]
    (fun w' => w'.heap[w.heap.size + 1 + 1 + 1]? = some (.cells #[.bool true] 4 (0, 0)) ∧ Chg (fun k => k = w.heap.size + 1 + 1 + 1) ((((w.alloc (.cells #[.int .u8 1, .int .i64 0, .int .i64 0] 24)).alloc (.cells #[.int .i64 1] 3)).alloc (.cells #[.int .u8 0, .int .i64 0, .int .i64 0] 24)).alloc (.cells #[.bool false] 4)) w') _ h0 hi (by omega) run16 (by
      intro w' hc
      refine (step1 ob x _ _ _ w' (hc.at ha) hlen (hc.cell (cell_of_blk hk rfl) (fun e => e)) (hc.cell (cell_of_blk hx rfl) (fun e => e)) (hc.blk b3 (fun e => e))).mono ?_
      rintro e w2 ⟨rfl, h1, h2⟩
      exact ⟨rfl, h1, (hc.mono (fun _ _ e => e.elim)).trans h2⟩))
  have hx0 := cell_of_blk (i := 0) hx rfl
  have hx1 := cell_of_blk (i := 1) hx rfl
  have hx2 := cell_of_blk (i := 2) hx rfl
  have Hx := Lib.hid hx
  have Hk := Lib.hid hk
  have Hv := Lib.hid hv
  clear hx hk hv b0 b1 b2 b3 ha h h0
  go_enter Try.func11, Try.ntmps11
  go_wp2_with (go_at_call 13; refine HW.out.mono ?_; rintro e w1 ⟨rfl, h1, h2⟩; have H2 := Lib.hid h2; clear h2; have c0 := cell_of_blk (i := 0) h1 rfl; have x1 := cell_of_blk (i := 1) (H2.out.blk Hx.out (by omega)) rfl; have x2 := cell_of_blk (i := 2) (H2.out.blk Hx.out (by omega)) rfl; have k0 := cell_of_blk (i := 0) (H2.out.blk Hk.out (by omega)) rfl; have v0 := cell_of_blk (i := 0) (H2.out.blk Hv.out (by omega)) rfl; have v1 := cell_of_blk (i := 1) (H2.out.blk Hv.out (by omega)) rfl; have v2 := cell_of_blk (i := 2) (H2.out.blk Hv.out (by omega)) rfl; have f0 := frozen_of_blk (i := 0) (H2.out.blk Hv.out (by omega)); have f1 := frozen_of_blk (i := 1) (H2.out.blk Hv.out (by omega)); have f2 := frozen_of_blk (i := 2) (H2.out.blk Hv.out (by omega)); clear h1)
  refine bodyPost_ret (v := .tuple #[.agg #[.int .u8 1, .int .i64 0, .int .i64 1], .int .u8 0]) (by simp [results, Try.results11, go_sem, *]) rfl ⟨rfl, ?_⟩
  have q1 : Chg (fun _ => False) w w1 := hC.out.then' H2.out (fun k hk e => by omega)
  refine q1.then' (T := fun k => k = w.heap.size + 1 + 1) (((Chg.refl (fun k => k = w.heap.size + 1 + 1) w1).setCell (a := ⟨w.heap.size + 1 + 1, 0, none⟩) (fun _ => rfl) _).setCell (a := ⟨w.heap.size + 1 + 1, 1, none⟩) (fun _ => rfl) _ |>.setCell (a := ⟨w.heap.size + 1 + 1, 2, none⟩) (fun _ => rfl) _) (fun k hk e => by omega)

set_option maxHeartbeats 1000000 in
theorem thingS (p : Nat) (os : List Ob) (lim : Nat) (F : Nat → Prop) (ob : Ob) (x y : Cv) (w : World) (h : HeapS w p os lim F) (hi : os[0]? = some ob) (hvs : ob.vs = [x, y]) (hbase : ob.base = 5) :
    Calls Try.prog 12 #[.pointer (some ⟨p, 0, none⟩), .agg #[.int .u8 1, .int .i64 0, .int .i64 1]] w fun e w' => e = .returned (.tuple #[.int .i64 6, .bool true]) ∧ Chg (fun _ => False) w w' := by
  have hC := Lib.hid (((Chg.refl (fun _ => False) w).alloc (.cells #[.int .u8 1, .int .i64 0, .int .i64 1] 24)).alloc (.cells #[.int .i64 0] 3))
  have h0 := h.chg (hC.out) (fun _ _ e => e)
  have b0 := blk_alloc_new w (.cells #[.int .u8 1, .int .i64 0, .int .i64 1] 24)
  have b1 := blk_alloc_new (w.alloc (.cells #[.int .u8 1, .int .i64 0, .int .i64 1] 24)) (.cells #[.int .i64 0] 3)
  simp only [World.size_alloc] at b1
  have hx := blk_alloc b0 (.cells #[.int .i64 0] 3)
  obtain ⟨ha, _, _⟩ := h0.at hi (j := 1) (x := y) (by simp [hvs])
  have HW := Lib.hid (withGo p os lim F 0 1 ob 17 #[.pointer (some ⟨w.heap.size, 0, none⟩), .pointer (some ⟨w.heap.size + 1, 0, none⟩)]
    (fun w' => w'.heap[w.heap.size + 1]? = some (.cells #[.int .i64 6] 3 (0, 0)) ∧ Chg (fun k => k = w.heap.size + 1) ((w.alloc (.cells #[.int .u8 1, .int .i64 0, .int .i64 1] 24)).alloc (.cells #[.int .i64 0] 3)) w') _ h0 hi (by simp [hvs]) run17 (by
      intro w' hc
      refine (thing1 ob y _ _ w' (hc.at ha) hbase (hc.cell (cell_of_blk hx rfl) (fun e => e)) (hc.blk b1 (fun e => e))).mono ?_
      rintro e w2 ⟨rfl, h1, h2⟩
      exact ⟨rfl, h1, (hc.mono (fun _ _ e => e.elim)).trans h2⟩))
  have hx0 := cell_of_blk (i := 0) hx rfl
  have hx1 := cell_of_blk (i := 1) hx rfl
  have hx2 := cell_of_blk (i := 2) hx rfl
  clear hx b0 b1 ha h h0
  go_enter Try.func12, Try.ntmps12
  go_wp2_with (go_at_call 13; refine HW.out.mono ?_; rintro e w1 ⟨rfl, h1, h2⟩; have H2 := Lib.hid h2; clear h2; have c0 := cell_of_blk (i := 0) h1 rfl; clear h1)
  go_ret2
  exact ⟨rfl, hC.out.then' H2.out (fun k hk e => by omega)⟩
end Go.Proofs.Ytcecllgmhpbehaa
