/- What the closures of Store, Step and Thing do; the methods. -/
import Derived.Test.YtcecllgmhpbehaaC3
import Derived.Test.YtcecllgmhpbehaaRds
namespace Go.Proofs.Ytcecllgmhpbehaa
open Go.RowKit

macro "fam_step" n:num : tactic => `(tactic| (
    refine wpFam_val (by first | exact wanted_none rfl | rfl) (fun L w' hh => hh) ?_
    apply Exists.intro
    refine ⟨fun L w' hcl' _ hk hh => ?_, ?_⟩
    · (have q9 := dep_false hcl' 20 (i := $n) (by kernel_rfl) hk; have hh := hh.out; simp only [q9, Bool.false_eq_true, if_false] at hh; subst hh; go_simp; rfl)
    go_simp))

theorem flat_set (vs : List Cv) (j : Nat) (x : Cv) (hj : j < vs.length) :
    ((((vs.flatMap Cv.cells).toArray.setIfInBounds (j * 3) (.int .u8 x.k)).setIfInBounds (j * 3 + 1) (.int .i64 x.o)).setIfInBounds (j * 3 + 2) (.int .i64 x.n)) = ((vs.set j x).flatMap Cv.cells).toArray := by
  apply Array.ext'
  simp only [Array.toList_setIfInBounds, List.toList_toArray]
  apply List.ext_getElem?
  intro m
  have hl := flat_len Cv.cells Cv.len vs
  have hl2 := flat_len Cv.cells Cv.len (vs.set j x)
  rw [List.length_set] at hl2
  have e1 : m = (m / 3) * 3 + m % 3 := by omega
  have hr : m % 3 < 3 := Nat.mod_lt _ (by decide)
  by_cases hm : m < vs.length * 3
  · have hq : m / 3 < vs.length := by omega
    have g := flat_get Cv.cells Cv.len vs (m / 3) hq (m % 3) hr
    have g2 := flat_get Cv.cells Cv.len (vs.set j x) (m / 3) (by simpa using hq) (m % 3) hr
    rw [← e1] at g g2
    rw [g2]
    simp only [List.getElem?_set, List.length_set, hl]
    rw [g]
    by_cases hjm : j = m / 3
    · subst hjm
      have h3 : m % 3 = 0 ∨ m % 3 = 1 ∨ m % 3 = 2 := by omega
      rw [List.getElem_set_self]
      rcases h3 with h | h | h
      · rw [if_neg (by omega), if_neg (by omega), if_pos (by omega), if_pos (by omega), h]; rfl
      · rw [if_neg (by omega), if_pos (by omega), if_pos (by omega), h]; rfl
      · rw [if_pos (by omega), if_pos (by omega), h]; rfl
    · rw [if_neg (by omega), if_neg (by omega), if_neg (by omega), List.getElem_set_ne hjm]
  · rw [List.getElem?_eq_none (by simp [hl]; omega), List.getElem?_eq_none (by omega)]

set_option maxHeartbeats 1000000 in
theorem store1 (ob : Ob) (j : Nat) (v : Cv) (bq bv : Nat) (w : World) (h : ObAt w ob) (hj : j < ob.vs.length)
    (hq : w.cell? ⟨bq, 2, none⟩ = some (.int .i64 j)) (hv : w.heap[bv]? = some (.cells #[.int .u8 v.k, .int .i64 v.o, .int .i64 v.n] 24 (0, 0))) :
    Calls Try.prog 14 #[.pointer (some ⟨ob.pb, 0, none⟩), .pointer (some ⟨bv, 0, none⟩), .pointer (some ⟨bq, 0, none⟩)] w fun e w' => e = .returned (.tuple #[]) ∧
      w'.heap[ob.cb]? = some (.cells ((ob.vs.set j v).flatMap Cv.cells).toArray 24 (0, 0)) ∧ Chg (· = ob.cb) w w' := by
  obtain ⟨g1, g2, g3⟩ := h
  have h0 := cell_of_blk (i := 0) g1 rfl
  have hb1 : (0 : Int) ≤ (j : Int) := by omega
  have hb2 : (j : Int) < ob.vs.length := by omega
  have hmm : ob.vs.length ≤ 9223372036854775807 := by omega
  have hset := Lib.hid (flat_set ob.vs j v hj)
  have hfl := flat_len Cv.cells Cv.len ob.vs
  have hg := fun t (ht : t < 3) => flat_get Cv.cells Cv.len ob.vs j hj t ht
  have hv0 := cell_of_blk g2 (v := .int .u8 ob.vs[j].k) (i := j * 3) (by rw [List.getElem?_toArray]; exact hg 0 (by decide))
  have hv1 := cell_of_blk g2 (v := .int .i64 ob.vs[j].o) (i := j * 3 + 1) (by rw [List.getElem?_toArray]; exact hg 1 (by decide))
  have hv2 := cell_of_blk g2 (v := .int .i64 ob.vs[j].n) (i := j * 3 + 2) (by rw [List.getElem?_toArray]; exact hg 2 (by decide))
  have hvf0 := frozen_of_blk (i := j * 3) g2
  have hvf1 := frozen_of_blk (i := j * 3 + 1) g2
  have hvf2 := frozen_of_blk (i := j * 3 + 2) g2
  have hx0 := cell_of_blk (i := 0) hv rfl
  have hx1 := cell_of_blk (i := 1) hv rfl
  have hx2 := cell_of_blk (i := 2) hv rfl
  have Hg2 := Lib.hid g2
  clear g1 g2 hv hg hfl
  generalize ob.vs[j] = oldv at *
  generalize ob.pb = pb at *
  generalize ob.cb = cb at *
  generalize hvn : ob.vs.length = vn at *
  have Hvn := Lib.hid hvn
  clear hvn
  obtain ⟨ws, hws⟩ : ∃ ws, ws = (((w.setCell ⟨cb, j * 3, none⟩ (.int .u8 v.k)).setCell ⟨cb, j * 3 + 1, none⟩ (.int .i64 v.o)).setCell ⟨cb, j * 3 + 2, none⟩ (.int .i64 v.n)).drew := ⟨_, rfl⟩
  have Hws := Lib.hid hws
  clear hws
  go_enter Try.func14, Try.ntmps14
  go_wp2
  refine wp_region_fam_lit (by kernel_rfl) (by kernel_rfl) (fun L w' => Hid (w' = if L 8 then ws else w.drew)) (fun L hL => by rw [hL 8 (by decide)]; exact Lib.hid rfl) ?_
  iterate 8 fam_step 8
  refine wpFam_skip rfl (fun L w' hcl _ hk hh => ⟨ws, ?_, Lib.hid (by simp [doneToo])⟩) ?_
  · (have hh := hh.out; simp only [hk, Bool.false_eq_true, if_false] at hh; subst hh; rw [Hws.out]; go_simp)
  go_simp
  refine wpFam_end ?_
  intro L w' hL hh
  have hh := hh.out
  rw [hL 8 (by decide), if_pos rfl] at hh
  subst hh
  go_wp2
  refine ⟨rfl, .tuple #[], by simp [results, Try.f14, go_sem], rfl, ?_, ?_⟩
  · rw [Hws.out]
    have h1 := blk_setCell (i := j * 3) Hg2.out (.int .u8 v.k)
    have h2 := blk_setCell (i := j * 3 + 1) h1 (.int .i64 v.o)
    exact (blk_setCell (i := j * 3 + 2) h2 (.int .i64 v.n)).trans (by rw [hset.out])
  · rw [Hws.out]
    exact ((((Chg.refl (fun k => k = cb) w).setCell (fun _ => rfl) _).setCell (fun _ => rfl) _).setCell (fun _ => rfl) _).drew
end Go.Proofs.Ytcecllgmhpbehaa
