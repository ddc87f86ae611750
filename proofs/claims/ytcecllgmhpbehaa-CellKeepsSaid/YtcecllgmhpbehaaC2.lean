/- with, and what it is handed. -/
import Derived.Test.YtcecllgmhpbehaaC1
namespace Go.Proofs.Ytcecllgmhpbehaa
open Go.RowKit

set_option maxHeartbeats 1000000 in
theorem withNull (p : Option Addr) (q : Cv) (fv : Value) (w : World) (hk : q.k ≠ 1) :
    Calls Try.prog 13 #[.pointer p, .agg #[.int .u8 q.k, .int .i64 q.o, .int .i64 q.n], fv] w fun e w' => e = .returned (.int .u8 2) ∧ Chg (fun _ => False) w w' := by
  have hk' : (q.k == 1) = false := by simpa using hk
  go_enter Try.func13, Try.ntmps13
  go_wp2
  go_ret
  exact ⟨rfl, chg_alloc _ _ _⟩

theorem quietW {P : Program} {f : FuncId} {args : Array Value} {w : World} {v : Value} (h : ∀ w, Calls P f args w fun e w' => e = .returned v ∧ w = w') (n : Nat) :
    Calls P f args (w.drewN n) fun e w'' => e = .returned v ∧ ∃ m, w'' = w.drewN m := quiet_left (h _)

set_option maxHeartbeats 1000000 in
theorem withOut (p : Nat) (os : List Ob) (lim : Nat) (F : Nat → Prop) (o n : Int) (fv : Value) (w : World) (h : HeapS w p os lim F) (hg : getC os ⟨1, o, n⟩ = none) :
    Calls Try.prog 13 #[.pointer (some ⟨p, 0, none⟩), .agg #[.int .u8 1, .int .i64 o, .int .i64 n], fv] w fun e w' => e = .returned (.int .u8 3) ∧ Chg (fun _ => False) w w' := by
  have hC := Lib.hid (chg_alloc (fun _ => False) w (.cells #[.int .u8 1, .int .i64 o, .int .i64 n] 24))
  have h0 := h.chg (hC.out) (fun _ _ e => e)
  have hx := blk_alloc_new w (.cells #[.int .u8 1, .int .i64 o, .int .i64 n] 24)
  have hx0 := cell_of_blk (i := 0) hx rfl
  have hx1 := cell_of_blk (i := 1) hx rfl
  have hx2 := cell_of_blk (i := 2) hx rfl
  obtain ⟨lv, hb, hl, ho, _⟩ := h0
  obtain ⟨_, hmax, ad, cap, rfl, _, _, _, h7⟩ := Rd.of_owns hl
  have hc := cell_of_blk (i := 0) hb rfl
  by_cases h1 : o < 0
  · have h1' : decide (o < 0) = true := by simpa using h1
    clear hl h7 ho hb hx h1 hg
    go_enter Try.func13, Try.ntmps13
    go_wp2
    generalize w.heap.size = bx at *
    generalize w.alloc (.cells #[.int .u8 1, .int .i64 o, .int .i64 n] 24) = w0 at *
    go_quiet (fail)
    go_wp2
    go_ret
    exact ⟨rfl, hC.out.drewN _⟩
  · have h1' : decide (o < 0) = false := by simpa using h1
    by_cases h2 : o < os.length
    · have h2' : decide ((os.length : Int) ≤ o) = false := by simp; omega
      obtain ⟨i, rfl⟩ := Int.eq_ofNat_of_zero_le (show 0 ≤ o by omega)
      have hi : i < os.length := by omega
      obtain ⟨b, off, rfl, hG, hcl⟩ : ∃ b off, ad = some ⟨b, off, none⟩ ∧ _ ∧ _ := h7.resolve_left (by omega)
      have hce := hcl i (.pointer (some ⟨os[i].pb, 0, none⟩)) (by simp [hi])
      obtain ⟨g1, g2, g3⟩ := ho os[i] (List.getElem_mem hi)
      have hoc := cell_of_blk (i := 0) g1 rfl
      have hhas := Lib.hid (fun w => hasS (some ⟨os[i].cb, 0, none⟩) os[i].vs.length os[i].vs.length n w)
      have hno : decide (0 ≤ n ∧ n < (os[i].vs.length : Int)) = false := by
        simp only [decide_eq_false_iff_not]
        rintro ⟨e1, e2⟩
        obtain ⟨j, rfl⟩ := Int.eq_ofNat_of_zero_le e1
        rw [getC_at, List.getElem?_eq_getElem hi, Option.bind_some, List.getElem?_eq_none_iff] at hg
        omega
      have hb1 : (0 : Int) ≤ (i : Int) := by omega
      have hb2 : (i : Int) < os.length := by omega
      have hmm : os.length ≤ 9223372036854775807 := by unfold maxLen at hmax; omega
      rw [hno] at hhas
      clear hl h7 ho hb hx hcl g1 g2 h1 hg h2 hno
      generalize os[i].pb = pb at *
      generalize os[i].cb = cb at *
      generalize os[i].vs.length = vn at *
      go_enter Try.func13, Try.ntmps13
      go_wp2
      generalize w.heap.size = bx at *
      generalize w.alloc (.cells #[.int .u8 1, .int .i64 (i : Int), .int .i64 n] 24) = w0 at *
      go_quiet ((go_at_call 18; with_reducible exact quietW hhas.out _))
      go_wp2
      go_ret
      exact ⟨rfl, hC.out.drewN _⟩
    · have h2' : decide ((os.length : Int) ≤ o) = true := by simp; omega
      clear hl h7 ho hb hx h1 hg h2
      go_enter Try.func13, Try.ntmps13
      go_wp2
      generalize w.heap.size = bx at *
      generalize w.alloc (.cells #[.int .u8 1, .int .i64 o, .int .i64 n] 24) = w0 at *
      go_quiet (fail)
      go_wp2
      go_ret
      exact ⟨rfl, hC.out.drewN _⟩
end Go.Proofs.Ytcecllgmhpbehaa
