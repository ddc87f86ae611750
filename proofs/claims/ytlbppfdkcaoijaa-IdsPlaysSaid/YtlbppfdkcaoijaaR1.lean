/- Contracts of the reference's table. -/
import Derived.Test.YtlbppfdkcaoijaaP1
import Derived.Test.YtlbppfdkcaoijaaA4
namespace Go.Proofs.Ytlbppfdkcaoijaa
open Go.RowKit

section
variable {α : Type} [DecidableEq α]
theorem tIx_first {k : α} : ∀ {xs : List α} {j : Nat}, xs[j]? = some k → k ∉ xs.take j → tIx k xs = some j
  | [], _, h, _ => by simp at h
  | x :: xs, 0, h, _ => by simp at h; simp [tIx, h]
  | x :: xs, j + 1, h, hn => by
    simp only [List.take_succ_cons, List.mem_cons, not_or] at hn
    have := tIx_first (xs := xs) (j := j) (by simpa using h) hn.2
    simp [tIx, this, Ne.symm hn.1]
end

/-- Block p is the reference's table of these keys. -/
def RefT (w : World) (p : Nat) (xs : List ByteArray) (F : Nat → Prop) : Prop :=
  ∃ lv, w.heap[p]? = some (.cells #[lv] 40) ∧ w.ownsRow 0 9 1 lv xs.length (xs.map .string) ∧ lv.ownBlock ≠ some p ∧ F = fun k => k = p ∨ lv.ownBlock = some k

theorem RefT.chg {w w' : World} {p : Nat} {xs : List ByteArray} {F S : Nat → Prop} (h : RefT w p xs F) (hc : Chg S w w') (hs : ∀ b, F b → ¬ S b) : RefT w' p xs F := by
  obtain ⟨lv, hb, hl, hlp, rfl⟩ := h
  exact ⟨lv, hc.blk hb (hs p (.inl rfl)), owns_chg hl hc (fun k hk => hs k (.inr hk)), hlp, rfl⟩
theorem RefT.lt {w : World} {p : Nat} {xs : List ByteArray} {F : Nat → Prop} (h : RefT w p xs F) : ∀ b, F b → b < w.heap.size := by
  obtain ⟨lv, hb, hl, hlp, rfl⟩ := h
  rintro b (rfl | h)
  · exact blk_lt hb
  · exact (hl.lt b h).2

set_option maxHeartbeats 400000 in
theorem rfind (p : Nat) (xs : List ByteArray) (F : Nat → Prop) (k : ByteArray) (w : World) (h : RefT w p xs F) :
    Calls Try.prog 20 #[.pointer (some ⟨p, 0, none⟩), .string k] w fun e w' => e = .returned (found (tIx k xs)) ∧ w = w' := by
  obtain ⟨lv, hb, hl, hlp, hF⟩ := h
  have hc0 := cell_of_blk (i := 0) hb rfl
  obtain ⟨hlen, hmax, ad, cap, rfl, h4, h5, h6, h7⟩ := Rd.of_owns hl
  unfold maxLen at hmax
  clear h4 h5 h6 hlen hl hlp hF hb
  go_enter Try.func20, Try.ntmps20
  go_wp2
  go_loop [6] (fun i => ∃ j : Nat, j ≤ xs.length ∧ i = .int .i64 j ∧ k ∉ xs.take j) (fun i => xs.length - (intOf i).toNat)
  case atStart => exact ⟨0, Nat.zero_le _, rfl, by simp⟩
  case round =>
    obtain ⟨j, hj, rfl, hn⟩ := hrel
    have Hn := Lib.hid hn
    clear hn
    by_cases hlt : j < xs.length
    · obtain ⟨b, off, rfl, hG, hcl⟩ : ∃ b off, ad = some ⟨b, off, none⟩ ∧ _ ∧ _ := h7.resolve_left (by omega)
      have hc := hcl j (.string xs[j]) (by simp [hlt])
      have hb1 : (0 : Int) ≤ (j : Int) := by omega
      have hb2 : (j : Int) < xs.length := by omega
      clear hcl h7
      go_wp2
      · have heq : (xs[j].toList == k.toList) = true := by assumption
        rw [toList_beq, decide_eq_true_iff] at heq
        go_ret2
        refine ⟨?_, rfl⟩
        rw [tIx_first (by simp [hlt, heq]) Hn.out]; rfl
      · have hne : (xs[j].toList == k.toList) = false := by assumption
        rw [toList_beq, decide_eq_false_iff_not] at hne
        go_round
        case rel => exact ⟨j + 1, by omega, by go_num, by rw [List.take_succ_eq_append_getElem hlt]; simp only [List.mem_append, List.mem_singleton, not_or]; exact ⟨Hn.out, fun e => hne e.symm⟩⟩
        case measure => simp [intOf]; omega
    · go_wp2
      go_ret2
      refine ⟨?_, rfl⟩
      have hje : j = xs.length := by omega
      have := Hn.out
      rw [hje, List.take_length] at this
      rw [tIx_none.2 this]; rfl

theorem rfind_some (p : Nat) (xs : List ByteArray) (F : Nat → Prop) (k : ByteArray) (w : World) (h : RefT w p xs F) (i : Nat) (hx : tIx k xs = some i) :
    Calls Try.prog 20 #[.pointer (some ⟨p, 0, none⟩), .string k] w fun e w' => e = .returned (.tuple #[.int .i64 i, .bool true]) ∧ w = w' := by
  have := rfind p xs F k w h; rw [hx] at this; exact this
theorem rfind_none (p : Nat) (xs : List ByteArray) (F : Nat → Prop) (k : ByteArray) (w : World) (h : RefT w p xs F) (hx : tIx k xs = none) :
    Calls Try.prog 20 #[.pointer (some ⟨p, 0, none⟩), .string k] w fun e w' => e = .returned (.tuple #[.int .i64 0, .bool false]) ∧ w = w' := by
  have := rfind p xs F k w h; rw [hx] at this; exact this

def RIdPost (w : World) (p : Nat) (xs : List ByteArray) (F : Nat → Prop) (k : ByteArray) (e : Ending) (w' : World) : Prop :=
  e = .returned (.int .i64 (tNo k xs : Nat)) ∧ ∃ F', RefT w' p (tAdd k xs) F' ∧ Chg F w w' ∧ ∀ b, F' b → F b ∨ w.heap.size ≤ b

set_option maxHeartbeats 400000 in
theorem rid (p : Nat) (xs : List ByteArray) (F : Nat → Prop) (k : ByteArray) (w : World) (h : RefT w p xs F) (hn : xs.length < 1000000) :
    Calls Try.prog 18 #[.pointer (some ⟨p, 0, none⟩), .string k] w (RIdPost w p xs F k) := by
  have H := Lib.hid h
  cases hx : tIx k xs with
  | some i =>
    have Hx := Lib.hid hx
    clear hx h
    go_enter Try.func18, Try.ntmps18
    go_wp2_with (go_at_call 20; refine (rfind_some p xs F k _ H.out i Hx.out).mono ?_; rintro e w' ⟨rfl, rfl⟩)
    go_ret
    exact ⟨by simp [tNo, Hx.out], F, by simpa [tAdd, Hx.out] using H.out, Chg.refl _ _, fun _ h => .inl h⟩
  | none =>
    have Hx := Lib.hid hx
    clear hx
    obtain ⟨lv, hb, hl, hlp, hF⟩ := h
    have HF := Lib.hid hF
    clear hF
    obtain ⟨ad, c, rfl⟩ := slice_of_owns hl
    have hc1 := cell_of_blk (i := 0) hb rfl
    have hf1 := frozen_of_blk (i := 0) hb
    have hl2 := fun o => owns_chg hl ((Chg.refl (fun _ => False) w).alloc o) (fun _ _ e => e)
    have Hl2 := Lib.hid hl2
    clear hl2
    have Hl := Lib.hid hl
    clear hl
    go_enter Try.func18, Try.ntmps18
    go_wp2_with (first
      | (go_at_call 20; refine (rfind_none p xs F k _ H.out Hx.out).mono ?_; rintro e w' ⟨rfl, rfl⟩)
      | (at_builtin; refine wp_append_at rfl _ _ 36 rfl 9 _ 1 16 Try.underlying36 info9 rfl (by decide) _ xs.length _ rfl (Hl2.out _) w.heap.size 1 1 _ _ _ rfl (blk_alloc_new _ _) [.string k] rfl rfl ?_ (by decide) ?_ ?_ ?_))
    · simp [Value.oneCell']
    · unfold maxLen; omega
    · omega
    intro g cap w2 hl3 hg3 hg4
    have hg5 := ((Chg.refl (fun k => (Value.slice ad xs.length c).ownBlock = some k) w).alloc (.cells #[.string k] 9)).trans hg3
    have hb3 := hg5.blk hb hlp
    have hc3 := cell_of_blk (i := 0) hb3 rfl
    have hf3 := frozen_of_blk (i := 0) hb3
    have hgp : g ≠ p := by rintro rfl; rcases hg4 with h | h; exact hlp h; have := blk_lt hb; omega
    clear hc1 hf1
    go_wp2_with fail
    go_ret
    have hw : Chg (fun k => k = p) w2 (w2.setCell ⟨p, 0, none⟩ (.slice (some ⟨g, 0, none⟩) (xs.length + 1) cap)) := chg_setCell _ _ _ _
    refine ⟨by simp [tNo, Hx.out], _, ⟨.slice (some ⟨g, 0, none⟩) (xs.length + 1) cap, ?_, ?_, ?_, rfl⟩, ?_, ?_⟩
    · have := blk_setCell (i := 0) hb3 (.slice (some ⟨g, 0, none⟩) (xs.length + 1) cap)
      simpa using this
    · have := owns_chg hl3 hw (fun k hk e => hgp (by simpa [Value.ownBlock, e] using hk))
      simpa [tAdd, Hx.out] using this
    · simpa [Value.ownBlock] using hgp
    · rw [HF.out]
      exact (hg5.mono (fun k _ e => .inr e)).trans (hw.mono (fun k _ e => .inl e))
    · rw [HF.out]
      rintro b (h | h)
      · exact .inl (.inl h)
      · simp only [Value.ownBlock, Option.some.injEq] at h
        subst h
        rcases hg4 with h | h
        · exact .inl (.inr h)
        · exact .inr (by omega)

set_option maxHeartbeats 400000 in
theorem rkey (p : Nat) (xs : List ByteArray) (F : Nat → Prop) (i : Int) (w : World) (h : RefT w p xs F) :
    Calls Try.prog 22 #[.pointer (some ⟨p, 0, none⟩), .int .i64 i] w fun e w' => e = .returned (keyOut xs i) ∧ w = w' := by
  obtain ⟨lv, hb, hl, hlp, hF⟩ := h
  have hc := cell_of_blk (i := 0) hb rfl
  obtain ⟨hlen, hmax, ad, cap, rfl, h4, h5, h6, h7⟩ := Rd.of_owns hl
  by_cases h0 : i < 0
  · have h0' : decide (i < 0) = true := by simpa using h0
    go_enter Try.func22, Try.ntmps22
    go_wp2
    go_ret2
    refine ⟨?_, rfl⟩
    rw [keyOut, if_neg (by omega)]; rfl
  · have h0' : decide (i < 0) = false := by simpa using h0
    by_cases h1 : i < xs.length
    · have h1' : decide ((xs.length : Int) ≤ i) = false := by simpa using h1
      obtain ⟨b, off, rfl, hG, hcl⟩ : ∃ b off, ad = some ⟨b, off, none⟩ ∧ _ ∧ _ := h7.resolve_left (by omega)
      obtain ⟨k, rfl⟩ := Int.eq_ofNat_of_zero_le (show 0 ≤ i by omega)
      have hk : k < xs.length := by omega
      have hce := hcl k (.string xs[k]) (by simp [hk])
      have hmm : xs.length ≤ 9223372036854775807 := by unfold maxLen at hmax; omega
      clear hcl h0 h6 h7
      go_enter Try.func22, Try.ntmps22
      go_wp2
      go_ret2
      refine ⟨?_, rfl⟩
      rw [keyOut, if_pos (by omega)]; simp [hk]
    · have h1' : decide ((xs.length : Int) ≤ i) = true := by simpa using h1
      go_enter Try.func22, Try.ntmps22
      go_wp2
      go_ret2
      refine ⟨?_, rfl⟩
      rw [keyOut, if_neg (by omega)]; rfl
end Go.Proofs.Ytlbppfdkcaoijaa
