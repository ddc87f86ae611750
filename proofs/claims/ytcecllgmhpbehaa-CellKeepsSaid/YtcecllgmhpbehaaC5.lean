/- Load and Store. -/
import Derived.Test.YtcecllgmhpbehaaC4
namespace Go.Proofs.Ytcecllgmhpbehaa
open Go.RowKit

theorem HeapS.at {w : World} {p : Nat} {os : List Ob} {lim : Nat} {F : Nat → Prop} (h : HeapS w p os lim F) {i j : Nat} {ob : Ob} {x : Cv} (hi : os[i]? = some ob) (hx : ob.vs[j]? = some x) : At w ob j x ∧ ob.vs.length ≤ 64 ∧ j < ob.vs.length := by
  obtain ⟨lv, hb, hl, ho, _⟩ := h
  obtain ⟨g1, g2, g3⟩ := ho ob (List.mem_of_getElem? hi)
  have hj : j < ob.vs.length := (List.getElem?_eq_some_iff.1 hx).1
  have hg := fun t (ht : t < 3) => flat_get Cv.cells Cv.len ob.vs j hj t ht
  have hxe : ob.vs[j] = x := (List.getElem?_eq_some_iff.1 hx).2
  rw [hxe] at hg
  exact ⟨⟨cell_of_blk g1 rfl, cell_of_blk g1 rfl, cell_of_blk g2 (by rw [List.getElem?_toArray]; exact hg 0 (by decide)), cell_of_blk g2 (by rw [List.getElem?_toArray]; exact hg 1 (by decide)), cell_of_blk g2 (by rw [List.getElem?_toArray]; exact hg 2 (by decide))⟩, g3, hj⟩

theorem Chg.at {w w' : World} {ob : Ob} {j : Nat} {x : Cv} (hc : Chg (fun _ => False) w w') (h : At w ob j x) : At w' ob j x :=
  ⟨hc.cell h.o0 (fun e => e), hc.cell h.o1 (fun e => e), hc.cell h.c0 (fun e => e), hc.cell h.c1 (fun e => e), hc.cell h.c2 (fun e => e)⟩

/-- with, as Load uses it. -/
theorem withLoad (p : Nat) (os : List Ob) (lim : Nat) (F : Nat → Prop) (q : Cv) (bq bv : Nat) (w : World) (h : HeapS w p os lim F)
    (hq : w.heap[bq]? = some (.cells #[.int .u8 q.k, .int .i64 q.o, .int .i64 q.n] 24 (0, 0))) (hv : w.heap[bv]? = some (.cells #[.int .u8 0, .int .i64 0, .int .i64 0] 24 (0, 0))) :
    Calls Try.prog 13 #[.pointer (some ⟨p, 0, none⟩), .agg #[.int .u8 q.k, .int .i64 q.o, .int .i64 q.n], .func (.func 15) #[] #[.pointer (some ⟨bq, 0, none⟩), .pointer (some ⟨bv, 0, none⟩)]] w fun e w' =>
      e = .returned (.int .u8 (stC os q)) ∧ w'.heap[bv]? = some (.cells ((getC os q).getD .zero).cells.toArray 24 (0, 0)) ∧ Chg (· = bv) w w' := by
  by_cases hk : q.k = 1
  · cases hg : getC os q with
    | none =>
      obtain ⟨k, o, n⟩ := q
      obtain rfl : k = 1 := hk
      refine (withOut p os lim F o n _ w h hg).mono ?_
      rintro e w1 ⟨rfl, hc⟩
      exact ⟨by simp [stC, hg], hc.blk hv (fun e => e), hc.mono (fun _ _ e => e.elim)⟩
    | some x =>
      obtain ⟨i, j, ob, rfl, hi, hx⟩ := getC_some hg
      obtain ⟨ha, hl, hj⟩ := h.at hi hx
      refine (withGo p os lim F i j ob 15 _ (fun w' => w'.heap[bv]? = some (.cells x.cells.toArray 24 (0, 0)) ∧ Chg (· = bv) w w') w h hi hj run15 ?_).mono ?_
      · intro w' hc
        refine (load1 ob j x bq bv 0 w' (hc.at ha) hj hl (hc.cell (cell_of_blk hq rfl) (fun e => e)) (hc.blk hv (fun e => e))).mono ?_
        rintro e w2 ⟨rfl, h1, h2⟩
        exact ⟨rfl, h1, (hc.mono (fun _ _ e => e.elim)).trans h2⟩
      · rintro e w2 ⟨rfl, h1, h2⟩
        exact ⟨by simp [stC, hg], h1, h2⟩
  · refine (withNull _ q _ w hk).mono ?_
    rintro e w1 ⟨rfl, hc⟩
    have hg : getC os q = none := by simp [getC, hk]
    exact ⟨by simp [stC, hk], by rw [hg]; exact hc.blk hv (fun e => e), hc.mono (fun _ _ e => e.elim)⟩

set_option maxHeartbeats 1000000 in
theorem loadS (p : Nat) (os : List Ob) (lim : Nat) (F : Nat → Prop) (q : Cv) (w : World) (h : HeapS w p os lim F) :
    Calls Try.prog 9 #[.pointer (some ⟨p, 0, none⟩), .agg #[.int .u8 q.k, .int .i64 q.o, .int .i64 q.n]] w fun e w' =>
      e = .returned (.tuple #[((getC os q).getD .zero).enc, .int .u8 (stC os q)]) ∧ Chg (fun _ => False) w w' := by
  have hC := Lib.hid (((Chg.refl (fun _ => False) w).alloc (.cells #[.int .u8 q.k, .int .i64 q.o, .int .i64 q.n] 24)).alloc (.cells #[.int .u8 0, .int .i64 0, .int .i64 0] 24))
  have h0 := h.chg (hC.out) (fun _ _ e => e)
  have hx := blk_alloc (blk_alloc_new w (.cells #[.int .u8 q.k, .int .i64 q.o, .int .i64 q.n] 24)) (.cells #[.int .u8 0, .int .i64 0, .int .i64 0] 24)
  have hy := blk_alloc_new (w.alloc (.cells #[.int .u8 q.k, .int .i64 q.o, .int .i64 q.n] 24)) (.cells #[.int .u8 0, .int .i64 0, .int .i64 0] 24)
  rw [World.size_alloc] at hy
  have hx0 := cell_of_blk (i := 0) hx rfl
  have hx1 := cell_of_blk (i := 1) hx rfl
  have hx2 := cell_of_blk (i := 2) hx rfl
  have HW := Lib.hid (withLoad p os lim F q _ _ _ h0 hx hy)
  generalize hd : (getC os q).getD .zero = d at *
  generalize stC os q = st at *
  clear hx hy h0 h hd
  go_enter Try.func9, Try.ntmps9
  go_wp2_with (go_at_call 13; refine HW.out.mono ?_; rintro e w1 ⟨rfl, h1, h2⟩; have hy0 := cell_of_blk (i := 0) (v := .int .u8 d.k) h1 rfl; have hy1 := cell_of_blk (i := 1) (v := .int .i64 d.o) h1 rfl; have hy2 := cell_of_blk (i := 2) (v := .int .i64 d.n) h1 rfl; have hf0 := frozen_of_blk (i := 0) h1; have hf1 := frozen_of_blk (i := 1) h1; have hf2 := frozen_of_blk (i := 2) h1; have H1 := Lib.hid h1; clear h1; have H2 := Lib.hid h2; clear h2)
  refine bodyPost_ret (v := .tuple #[d.enc, .int .u8 st]) (by simp [results, Try.results9, go_sem, *, Cv.enc]) rfl ⟨rfl, ?_⟩
  refine hC.out.then' ((((H2.out.setCell (a := ⟨w.heap.size + 1, 0, none⟩) (fun _ => rfl) _).setCell (a := ⟨w.heap.size + 1, 1, none⟩) (fun _ => rfl) _).setCell (a := ⟨w.heap.size + 1, 2, none⟩) (fun _ => rfl) _)) ?_
  intro k hk e
  omega

/-- with, as Store uses it. -/
def putC (os : List Ob) (q v : Cv) : List Ob := if (getC os q).isSome then os.modify q.o.toNat (fun ob => { ob with vs := ob.vs.set q.n.toNat v }) else os
end Go.Proofs.Ytcecllgmhpbehaa
