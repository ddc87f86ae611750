/- with, where the address leads to a cell. -/
import Derived.Test.YtcecllgmhpbehaaC2
namespace Go.Proofs.Ytcecllgmhpbehaa
open Go.RowKit

set_option maxHeartbeats 1000000 in
theorem withGo (p : Nat) (os : List Ob) (lim : Nat) (F : Nat → Prop) (i j : Nat) (ob : Ob) (cl : Nat) (caps : Array Value) (Post : World → Prop) (w : World) (h : HeapS w p os lim F) (hi : os[i]? = some ob) (hj : j < ob.vs.length) (hrun : ∀ args w, (callFunc cl args).run Try.prog w = .ok (.enter cl args) w)
    (hcl : ∀ w', Chg (fun _ => False) w w' → Calls Try.prog cl (#[.pointer (some ⟨ob.pb, 0, none⟩)] ++ caps) w' fun e w'' => e = .returned (.tuple #[]) ∧ Post w'') :
    Calls Try.prog 13 #[.pointer (some ⟨p, 0, none⟩), .agg #[.int .u8 1, .int .i64 i, .int .i64 j], .func (.func cl) #[] caps] w fun e w' => e = .returned (.int .u8 0) ∧ Post w' := by
  have hC := Lib.hid (chg_alloc (fun _ => False) w (.cells #[.int .u8 1, .int .i64 i, .int .i64 j] 24))
  have h0 := h.chg (hC.out) (fun _ _ e => e)
  have hx := blk_alloc_new w (.cells #[.int .u8 1, .int .i64 i, .int .i64 j] 24)
  have hx0 := cell_of_blk (i := 0) hx rfl
  have hx1 := cell_of_blk (i := 1) hx rfl
  have hx2 := cell_of_blk (i := 2) hx rfl
  obtain ⟨lv, hb, hl, ho, _⟩ := h0
  obtain ⟨_, hmax, ad, cap, rfl, _, _, _, h7⟩ := Rd.of_owns hl
  have hc := cell_of_blk (i := 0) hb rfl
  have hil : i < os.length := (List.getElem?_eq_some_iff.1 hi).1
  have h1' : decide ((i : Int) < 0) = false := by simp
  have h2' : decide ((os.length : Int) ≤ (i : Int)) = false := by simp; omega
  obtain ⟨b, off, rfl, hG, hce0⟩ : ∃ b off, ad = some ⟨b, off, none⟩ ∧ _ ∧ _ := h7.resolve_left (by omega)
  have hce := hce0 i (.pointer (some ⟨ob.pb, 0, none⟩)) (by simp [hi])
  obtain ⟨g1, g2, g3⟩ := ho ob (List.mem_of_getElem? hi)
  have hoc := cell_of_blk (i := 0) g1 rfl
  have hhas := Lib.hid (fun w => hasS (some ⟨ob.cb, 0, none⟩) ob.vs.length ob.vs.length j w)
  have hno : decide (0 ≤ (j : Int) ∧ (j : Int) < (ob.vs.length : Int)) = true := by simp; omega
  have hb1 : (0 : Int) ≤ (i : Int) := by omega
  have hb2 : (i : Int) < os.length := by omega
  have hmm : os.length ≤ 9223372036854775807 := by unfold maxLen at hmax; omega
  rw [hno] at hhas
  have Hcl := Lib.hid hcl
  clear hl h7 ho hb hx g1 g2 hno hcl hce0 hi hj hG
  generalize ob.pb = pb at *
  generalize ob.cb = cb at *
  generalize ob.vs.length = vn at *
  go_enter Try.func13, Try.ntmps13
  go_wp2
  generalize w.heap.size = bx at *
  generalize w.alloc (.cells #[.int .u8 1, .int .i64 (i : Int), .int .i64 (j : Int)] 24) = w0 at *
  go_quiet ((go_at_call 18; with_reducible exact quietW hhas.out _))
  go_wp2
  refine wp_region_fam_lit (by kernel_rfl) (by kernel_rfl) (fun L w' => Hid (if L 9 = true then Post w' else w' = (w0.drewN nq).drew)) (fun L hL => by rw [hL 9 (by decide)]; exact Lib.hid (by simp)) ?_
  iterate 9
    refine wpFam_val (wanted_none rfl) (fun L w' hh => hh) ?_
    apply Exists.intro
    refine ⟨fun L w' hcl' _ hk hh => ?_, ?_⟩
    · (have q9 := dep_false hcl' 20 (i := 9) (by kernel_rfl) hk; have hh := hh.out; simp only [q9, Bool.false_eq_true, if_false] at hh; subst hh; go_simp; rfl)
    go_simp
  refine wpFam_on_call (wanted_none rfl) cl (#[.pointer (some ⟨pb, 0, none⟩)] ++ caps) (.tuple #[]) (fun w' => by go_simp) (fun L w' hcl' _ hk hh => ?_) ?_
  · have hh := hh.out
    simp only [hk, Bool.false_eq_true, if_false] at hh
    subst hh
    refine (Hcl.out _ ((hC.out.drewN _).drew)).mono ?_
    rintro e w2 ⟨he, hp⟩
    exact ⟨he, Lib.hid (by simpa [doneToo] using hp)⟩
  go_simp
  refine wpFam_end ?_
  intro L w' hL hh
  have hh := hh.out
  rw [hL 9 (by decide), if_pos rfl] at hh
  go_wp2
  go_ret
  exact ⟨rfl, hh⟩

theorem run14 (args : Array Value) (w : World) : (callFunc 14 args).run Try.prog w = .ok (.enter 14 args) w := by kernel_rfl
theorem run15 (args : Array Value) (w : World) : (callFunc 15 args).run Try.prog w = .ok (.enter 15 args) w := by kernel_rfl
theorem run16 (args : Array Value) (w : World) : (callFunc 16 args).run Try.prog w = .ok (.enter 16 args) w := by kernel_rfl
theorem run17 (args : Array Value) (w : World) : (callFunc 17 args).run Try.prog w = .ok (.enter 17 args) w := by kernel_rfl

/-- What may be read through an object's block. -/
structure At (w : World) (ob : Ob) (j : Nat) (x : Cv) : Prop where
  o0 : w.cell? ⟨ob.pb, 0, none⟩ = some (.slice (some ⟨ob.cb, 0, none⟩) ob.vs.length ob.vs.length)
  o1 : w.cell? ⟨ob.pb, 1, none⟩ = some (.int .i64 ob.base)
  c0 : w.cell? ⟨ob.cb, j * 3, none⟩ = some (.int .u8 x.k)
  c1 : w.cell? ⟨ob.cb, j * 3 + 1, none⟩ = some (.int .i64 x.o)
  c2 : w.cell? ⟨ob.cb, j * 3 + 2, none⟩ = some (.int .i64 x.n)

set_option maxHeartbeats 1000000 in
theorem load1 (ob : Ob) (j : Nat) (x : Cv) (bq bv : Nat) (o : Int) (w : World) (h : At w ob j x) (hj : j < ob.vs.length) (hl : ob.vs.length ≤ 64)
    (hq : w.cell? ⟨bq, 2, none⟩ = some (.int .i64 j)) (hv : w.heap[bv]? = some (.cells #[.int .u8 0, .int .i64 0, .int .i64 0] 24 (0, 0))) :
    Calls Try.prog 15 #[.pointer (some ⟨ob.pb, 0, none⟩), .pointer (some ⟨bq, 0, none⟩), .pointer (some ⟨bv, 0, none⟩)] w fun e w' => e = .returned (.tuple #[]) ∧ w'.heap[bv]? = some (.cells x.cells.toArray 24 (0, 0)) ∧ Chg (· = bv) w w' := by
  obtain ⟨h0, _, h2, h3, h4⟩ := h
  have hb1 : (0 : Int) ≤ (j : Int) := by omega
  have hb2 : (j : Int) < ob.vs.length := by omega
  have hmm : ob.vs.length ≤ 9223372036854775807 := by omega
  generalize ob.pb = pb at *
  generalize ob.cb = cb at *
  generalize ob.vs.length = vn at *
  have hv0 := cell_of_blk (i := 0) hv rfl
  have hv1 := cell_of_blk (i := 1) hv rfl
  have hv2 := cell_of_blk (i := 2) hv rfl
  have hvf0 := frozen_of_blk (i := 0) hv
  have hvf1 := frozen_of_blk (i := 1) hv
  have hvf2 := frozen_of_blk (i := 2) hv
  obtain ⟨ws, hws⟩ : ∃ ws, ws = (((w.setCell ⟨bv, 0, none⟩ (.int .u8 x.k)).setCell ⟨bv, 1, none⟩ (.int .i64 x.o)).setCell ⟨bv, 2, none⟩ (.int .i64 x.n)).drew := ⟨_, rfl⟩
  have Hws := Lib.hid hws
  have Hv := Lib.hid hv
  clear hws hv
  go_enter Try.func15, Try.ntmps15
  go_wp2
  refine wp_region_fam_lit (by kernel_rfl) (by kernel_rfl) (fun L w' => Hid (w' = if L 8 then ws else w.drew)) (fun L hL => by rw [hL 8 (by decide)]; exact Lib.hid rfl) ?_
  iterate 8
    refine wpFam_val (wanted_none rfl) (fun L w' hh => hh) ?_
    apply Exists.intro
    refine ⟨fun L w' hcl' _ hk hh => ?_, ?_⟩
    · (have q9 := dep_false hcl' 20 (i := 8) (by kernel_rfl) hk; have hh := hh.out; simp only [q9, Bool.false_eq_true, if_false] at hh; subst hh; go_simp; rfl)
    go_simp
  refine wpFam_skip rfl (fun L w' hcl _ hk hh => ⟨ws, ?_, Lib.hid (by simp [doneToo])⟩) ?_
  · (have hh := hh.out; simp only [hk, Bool.false_eq_true, if_false] at hh; subst hh; rw [Hws.out]; go_simp)
  go_simp
  refine wpFam_end ?_
  intro L w' hL hh
  have hh := hh.out
  rw [hL 8 (by decide), if_pos rfl] at hh
  subst hh
  go_wp2
  refine ⟨rfl, .tuple #[], by simp [results, Try.f15, go_sem], rfl, ?_, ?_⟩
  · rw [Hws.out]
    have h1 := blk_setCell (i := 0) Hv.out (.int .u8 x.k)
    have h2 := blk_setCell (i := 1) h1 (.int .i64 x.o)
    exact (blk_setCell (i := 2) h2 (.int .i64 x.n)).trans (by simp [Cv.cells])
  · rw [Hws.out]
    exact ((((Chg.refl (fun k => k = bv) w).setCell (fun _ => rfl) _).setCell (fun _ => rfl) _).setCell (fun _ => rfl) _).drew
end Go.Proofs.Ytcecllgmhpbehaa
