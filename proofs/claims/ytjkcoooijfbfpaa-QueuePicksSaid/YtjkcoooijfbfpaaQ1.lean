/- The queue (gnomon/queue): what lies in memory; Len, Taken, Waits, Add. -/
import Derived.Test.YtjkcoooijfbfpaaRows
import Derived.Test.YtjkcoooijfbfpaaFam
import Derived.Deep.OwnRows
namespace Go.Proofs.Ytjkcoooijfbfpaa
open Go.RowKit

/-- A queue: who waits, the picks that are left, how many were taken. -/
structure Qs where
  bs : List Bool
  ps : List Int
  tk : Nat
def Qs.cnt (s : Qs) : Nat := s.bs.count true
def Qs.has (s : Qs) (i : Int) : Bool := decide (0 ≤ i) && (s.bs[i.toNat]?).getD false
def Qs.may (s : Qs) (i : Int) : Bool := decide (0 ≤ i) && decide (i < s.bs.length) && !(s.bs[i.toNat]?).getD false
def Qs.add (s : Qs) (i : Int) : Qs := if s.may i then { s with bs := s.bs.set i.toNat true } else s

/-- Block p is this queue; its memory is F. -/
def QAt (w : World) (p : Nat) (s : Qs) (F : Nat → Prop) : Prop :=
  ∃ wv pv G, w.heap[p]? = some (.cells #[wv, .int .i64 s.cnt, pv, .int .i64 s.tk] 35) ∧ w.ownsRow 0 4 1 wv s.bs.length (s.bs.map .bool) ∧ Rd w pv 1 s.ps.length (s.ps.map (.int .i64)) G ∧
    wv.ownBlock ≠ some p ∧ ¬ G p ∧ (∀ b, wv.ownBlock = some b → ¬ G b) ∧ (∀ b, G b → b < w.heap.size) ∧ F = fun k => k = p ∨ wv.ownBlock = some k ∨ G k

theorem QAt.chg {w w' : World} {p : Nat} {s : Qs} {F S : Nat → Prop} (h : QAt w p s F) (hc : Chg S w w') (hs : ∀ b, F b → ¬ S b) : QAt w' p s F := by
  obtain ⟨wv, pv, G, h1, h2, h3, h4, h5, h6, h7, rfl⟩ := h
  exact ⟨wv, pv, G, hc.blk h1 (hs p (.inl rfl)), owns_chg h2 hc (fun k hk => hs k (.inr (.inl hk))), h3.chg hc (fun b hb => hs b (.inr (.inr hb))), h4, h5, h6, fun b hb => Nat.lt_of_lt_of_le (h7 b hb) hc.size, rfl⟩
theorem QAt.lt {w : World} {p : Nat} {s : Qs} {F : Nat → Prop} (h : QAt w p s F) : ∀ b, F b → b < w.heap.size := by
  obtain ⟨wv, pv, G, h1, h2, h3, h4, h5, h6, h7, rfl⟩ := h
  rintro b (rfl | hk | hk)
  · exact blk_lt h1
  · exact (h2.lt b hk).2
  · exact h7 b hk

theorem slice_own {w : World} {base : Nat} {e : TypeId} {size : Nat} {v : Value} {n : Nat} {xs : List Value} (h : w.ownsRow base e size v n xs) : ∃ ad c, v = .slice ad n c := by
  obtain ⟨_, _, ad, c, rfl, _⟩ := Rd.of_owns h
  exact ⟨ad, c, rfl⟩

set_option maxHeartbeats 400000 in
theorem lenQ (p : Nat) (s : Qs) (F : Nat → Prop) (w : World) (h : QAt w p s F) :
    Calls Try.prog 9 #[.pointer (some ⟨p, 0, none⟩)] w fun e w' => e = .returned (.int .i64 s.cnt) ∧ w = w' := by
  obtain ⟨wv, pv, G, hb, _⟩ := h
  have hc := cell_of_blk (i := 1) hb rfl
  clear hb
  go_enter Try.func9, Try.ntmps9
  go_wp2
  go_ret
  exact ⟨rfl, rfl⟩
set_option maxHeartbeats 400000 in
theorem takenQ (p : Nat) (s : Qs) (F : Nat → Prop) (w : World) (h : QAt w p s F) :
    Calls Try.prog 10 #[.pointer (some ⟨p, 0, none⟩)] w fun e w' => e = .returned (.int .i64 s.tk) ∧ w = w' := by
  obtain ⟨wv, pv, G, hb, _⟩ := h
  have hc := cell_of_blk (i := 3) hb rfl
  clear hb
  go_enter Try.func10, Try.ntmps10
  go_wp2
  go_ret
  exact ⟨rfl, rfl⟩
theorem lenNil (w : World) : Calls Try.prog 9 #[.pointer none] w fun e w' => e = .returned (.int .i64 0) ∧ w = w' := by
  go_enter Try.func9, Try.ntmps9
  go_wp2
  go_ret
  exact ⟨rfl, rfl⟩
theorem takenNil (w : World) : Calls Try.prog 10 #[.pointer none] w fun e w' => e = .returned (.int .i64 0) ∧ w = w' := by
  go_enter Try.func10, Try.ntmps10
  go_wp2
  go_ret
  exact ⟨rfl, rfl⟩
set_option maxHeartbeats 400000 in
theorem waitsNil (i : Int) (w : World) : Calls Try.prog 8 #[.pointer none, .int .i64 i] w fun e w' => e = .returned (.bool false) ∧ w = w' := by
  go_enter Try.func8, Try.ntmps8
  go_wp2
  go_ret
  exact ⟨rfl, rfl⟩
set_option maxHeartbeats 400000 in
theorem addNil (i : Int) (w : World) : Calls Try.prog 7 #[.pointer none, .int .i64 i] w fun e w' => e = .returned (.bool false) ∧ w = w' := by
  go_enter Try.func7, Try.ntmps7
  go_wp2
  go_ret
  exact ⟨rfl, rfl⟩

set_option maxHeartbeats 1000000 in
theorem waitsQ (p : Nat) (s : Qs) (F : Nat → Prop) (i : Int) (w : World) (h : QAt w p s F) :
    Calls Try.prog 8 #[.pointer (some ⟨p, 0, none⟩), .int .i64 i] w fun e w' => e = .returned (.bool (s.has i)) ∧ w = w' := by
  obtain ⟨wv, pv, G, hb, hr, _⟩ := h
  have hc := cell_of_blk (i := 0) hb rfl
  clear hb
  obtain ⟨_, hmax, ad, cap, rfl, _, _, _, h7⟩ := Rd.of_owns hr
  by_cases h0 : 0 ≤ i
  · have h0' : decide (0 ≤ i) = true := by simpa using h0
    obtain ⟨k, rfl⟩ := Int.eq_ofNat_of_zero_le h0
    by_cases h1 : k < s.bs.length
    · have h1' : decide ((k : Int) < (s.bs.length : Int)) = true := by simpa using h1
      obtain ⟨b, off, rfl, hG, hcl⟩ : ∃ b off, ad = some ⟨b, off, none⟩ ∧ _ ∧ _ := h7.resolve_left (by omega)
      have hce := hcl k (.bool s.bs[k]) (by simp [h1])
      have hmm : s.bs.length ≤ 9223372036854775807 := by unfold maxLen at hmax; omega
      have hs : s.has (k : Int) = s.bs[k] := by simp [Qs.has, h1]
      rw [hs]
      generalize s.bs[k] = v at *
      clear hcl h7 hs hr
      go_enter Try.func8, Try.ntmps8
      go_wp2
      go_ret
      exact ⟨rfl, rfl⟩
    · have h1' : decide ((k : Int) < (s.bs.length : Int)) = false := by simpa using h1
      have hs : s.has (k : Int) = false := by simp [Qs.has, h1]
      rw [hs]
      clear h7 hs hr
      go_enter Try.func8, Try.ntmps8
      go_wp2
      go_ret
      exact ⟨rfl, rfl⟩
  · have h0' : decide (0 ≤ i) = false := by simpa using h0
    have hs : s.has i = false := by simp [Qs.has, h0]
    rw [hs]
    clear h7 hs hr
    go_enter Try.func8, Try.ntmps8
    go_wp2
    go_ret
    exact ⟨rfl, rfl⟩

theorem count_set {bs : List Bool} {i : Nat} (h : bs[i]? = some false) : (bs.set i true).count true = bs.count true + 1 := by
  induction bs generalizing i with
  | nil => simp at h
  | cons b bs ih =>
    cases i with
    | zero => simp at h; subst h; simp
    | succ i => simp at h; rw [List.set_cons_succ, List.count_cons, List.count_cons, ih h]; omega
theorem count_unset {bs : List Bool} {i : Nat} (h : bs[i]? = some true) : (bs.set i false).count true + 1 = bs.count true := by
  induction bs generalizing i with
  | nil => simp at h
  | cons b bs ih =>
    cases i with
    | zero => simp at h; subst h; simp
    | succ i => simp at h; have := ih h; rw [List.set_cons_succ, List.count_cons, List.count_cons]; omega

def AddPost (w : World) (p : Nat) (s : Qs) (F : Nat → Prop) (i : Int) (e : Ending) (w' : World) : Prop :=
  e = .returned (.bool (s.may i)) ∧ QAt w' p (s.add i) F ∧ Chg F w w'

set_option maxHeartbeats 1000000 in
theorem addQ (p : Nat) (s : Qs) (F : Nat → Prop) (i : Int) (w : World) (h : QAt w p s F) :
    Calls Try.prog 7 #[.pointer (some ⟨p, 0, none⟩), .int .i64 i] w (AddPost w p s F i) := by
  have H := Lib.hid h
  obtain ⟨wv, pv, G, hb, hr, hp, d1, d2, d3, d4, hF⟩ := h
  have hc := cell_of_blk (i := 0) hb rfl
  have hc1 := cell_of_blk (i := 1) hb rfl
  have hf1 := frozen_of_blk (i := 1) hb
  have Hb := Lib.hid hb
  have HF := Lib.hid hF
  have Hp := Lib.hid hp
  have D1 := Lib.hid d1
  have D2 := Lib.hid d2
  have D3 := Lib.hid d3
  have D4 := Lib.hid d4
  clear hb hF hp d1 d2 d3 d4
  by_cases h0 : 0 ≤ i
  · have h0' : decide (0 ≤ i) = true := by simpa using h0
    have h0'' : decide (i < 0) = false := by simpa using h0
    obtain ⟨k, rfl⟩ := Int.eq_ofNat_of_zero_le h0
    by_cases h1 : k < s.bs.length
    · have h1' : decide ((s.bs.length : Int) ≤ (k : Int)) = false := by simpa using h1
      obtain ⟨g, cap, rfl, _, _, hfz, hset⟩ := owns_at hr (i := k) h1
      obtain ⟨hlen, hmax, ad, cap', he, _, _, _, h7⟩ := Rd.of_owns hr
      obtain ⟨b, off, rfl, hG, hcl⟩ : ∃ b off, ad = some ⟨b, off, none⟩ ∧ _ ∧ _ := h7.resolve_left (by omega)
      injection he with he1 he2 he3
      subst he3
      injection he1 with he1
      injection he1 with hgb hof _
      subst hgb
      subst hof
      have hce0 := hcl k (.bool s.bs[k]) (by simp [h1])
      rw [Nat.zero_add] at hce0
      have hmm : s.bs.length ≤ 9223372036854775807 := by unfold maxLen at hmax; omega
      have hcn : s.cnt ≤ s.bs.length := List.count_le_length
      by_cases hv : s.bs[k] = true
      · have hm : s.may (k : Int) = false := by simp [Qs.may, h1, hv]
        have ha : s.add (k : Int) = s := by simp [Qs.add, hm]
        have Hm := Lib.hid hm
        have Ha := Lib.hid ha
        rw [hv] at hce0
        have Hset := Lib.hid hset
        clear hcl h7 hm ha hv hset he2 hr hG
        go_enter Try.func7, Try.ntmps7
        go_wp2
        go_ret
        exact ⟨by rw [Hm.out]; rfl, by rw [Ha.out]; exact H.out, Chg.refl _ _⟩
      · have hv : s.bs[k] = false := by simpa using hv
        have hm : s.may (k : Int) = true := by simp [Qs.may, h1, hv]
        have ha : s.add (k : Int) = { s with bs := s.bs.set k true } := by simp [Qs.add, hm]
        have hct : ({ s with bs := s.bs.set k true } : Qs).cnt = s.cnt + 1 := count_set (by simp [h1, hv])
        have Hm := Lib.hid hm
        have Ha := Lib.hid ha
        have Hct := Lib.hid hct
        rw [hv] at hce0
        have Hset := Lib.hid hset
        have hgp : g ≠ p := fun e => D1.out (by simp [Value.ownBlock, e])
        have hgp' : p ≠ g := fun e => hgp e.symm
        have hcb : (s.cnt : Int) ≤ 9223372036854775806 := by
          have h5 : ({ s with bs := s.bs.set k true } : Qs).cnt ≤ s.bs.length := by have := List.count_le_length (a := true) (l := s.bs.set k true); simpa [Qs.cnt] using this
          have := Hct.out
          unfold maxLen at hmax; omega
        clear hcl h7 hm ha hv hset he2 hr hct hG
        go_enter Try.func7, Try.ntmps7
        go_wp2
        go_ret
        refine ⟨by rw [Hm.out]; rfl, ?_, ?_⟩
        · rw [Ha.out]
          refine ⟨_, pv, G, ?_, ?_, ?_, D1.out, D2.out, D3.out, fun b hb => by simpa [World.setCell] using D4.out b hb, HF.out⟩
          · have := blk_setCell (i := 1) (blk_setCell_other (a := ⟨g, k, none⟩) Hb.out hgp' (.bool true)) (.int .i64 ((s.cnt : Int) + 1))
            rw [this, Hct.out]
            rfl
          · have := owns_chg (Hset.out (.bool true)) (chg_setCell _ p 1 (.int .i64 ((s.cnt : Int) + 1))) (fun k hk e => D1.out (by rw [hk, e]))
            simpa [List.map_set] using this
          · exact (Hp.out.chg (chg_setCell w g k (.bool true)) (fun b hb e => D3.out g (by simp [Value.ownBlock]) (e ▸ hb))).chg (chg_setCell _ p 1 _) (fun b hb e => D2.out (e ▸ hb))
        · rw [HF.out]
          exact ((Chg.refl _ w).setCell (a := ⟨g, k, none⟩) (fun _ => .inr (.inl (by simp [Value.ownBlock]))) _).setCell (a := ⟨p, 1, none⟩) (fun _ => .inl rfl) _
    · have h1' : decide ((s.bs.length : Int) ≤ (k : Int)) = true := by simpa using h1
      have hm : s.may (k : Int) = false := by simp [Qs.may, h1]
      have ha : s.add (k : Int) = s := by simp [Qs.add, hm]
      have Hm := Lib.hid hm
      have Ha := Lib.hid ha
      obtain ⟨ad, c, rfl⟩ := slice_own hr
      clear hm ha hr
      go_enter Try.func7, Try.ntmps7
      go_wp2
      go_ret
      exact ⟨by rw [Hm.out]; rfl, by rw [Ha.out]; exact H.out, Chg.refl _ _⟩
  · have h0' : decide (i < 0) = true := by simpa using h0
    have hm : s.may i = false := by simp [Qs.may, h0]
    have ha : s.add i = s := by simp [Qs.add, hm]
    have Hm := Lib.hid hm
    have Ha := Lib.hid ha
    clear hm ha hr
    go_enter Try.func7, Try.ntmps7
    go_wp2
    go_ret
    exact ⟨by rw [Hm.out]; rfl, by rw [Ha.out]; exact H.out, Chg.refl _ _⟩
end Go.Proofs.Ytjkcoooijfbfpaa
