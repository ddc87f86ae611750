import Derived.Test.YtlbppfdkcaoijaaRows
import Derived.Test.YtlbppfdkcaoijaaLib
namespace Go.Proofs.Ytlbppfdkcaoijaa
open Go.RowKit

section
variable {α : Type} [DecidableEq α]
def kvF (enc : α → Value) : Nat → List α → List (Value × Value)
  | _, [] => []
  | n, x :: xs => (enc x, .int .i64 n) :: kvF enc (n + 1) xs
/-- The number of a key. -/
def tIx (k : α) : List α → Option Nat
  | [] => none
  | x :: xs => if x = k then some 0 else (tIx k xs).map (· + 1)
theorem tIx_lt {k : α} : ∀ {xs : List α} {i : Nat}, tIx k xs = some i → i < xs.length
  | [], _, h => by simp [tIx] at h
  | x :: xs, i, h => by
    simp only [tIx] at h
    split at h
    · simp at h; subst h; simp
    · cases hx : tIx k xs with
      | none => simp [hx] at h
      | some j => simp [hx] at h; have := tIx_lt hx; simp; omega
theorem lookV_kvF {enc : α → Value} (inj : ∀ a b, enc a = enc b → a = b) (k : α) : ∀ (n : Nat) (xs : List α), lookV (enc k) (kvF enc n xs) = (tIx k xs).map fun (i : Nat) => Value.int .i64 ((n + i : Nat) : Int)
  | _, [] => rfl
  | n, x :: xs => by
    simp only [kvF, lookV, tIx]
    by_cases h : x = k
    · subst h; simp
    · rw [if_neg (fun e => h (inj _ _ e)), if_neg h, lookV_kvF inj k (n + 1) xs]
      cases tIx k xs with
      | none => rfl
      | some i => simp only [Option.map_some, Option.some.injEq, Value.int.injEq, true_and]; omega
theorem putV_kvF {enc : α → Value} (inj : ∀ a b, enc a = enc b → a = b) (k : α) (n : Nat) (xs : List α) (h : tIx k xs = none) : putV (enc k) (.int .i64 ((n + xs.length : Nat) : Int)) (kvF enc n xs) = kvF enc n (xs ++ [k]) := by
  induction xs generalizing n with
  | nil => simp [kvF, putV]
  | cons x xs ih =>
    simp only [tIx] at h
    by_cases hx : x = k
    · simp [hx] at h
    · rw [if_neg hx] at h
      have h' : tIx k xs = none := by cases e : tIx k xs <;> simp [e] at h ⊢
      simp only [kvF, putV, List.cons_append]
      rw [if_neg (fun e => hx (inj _ _ e))]
      have := ih (n + 1) h'
      have e : n + (x :: xs).length = n + 1 + xs.length := by simp; omega
      rw [e, this]
omit [DecidableEq α] in
theorem keys_kvF {enc : α → Value} {K : Value → Prop} (hK : ∀ a, K (enc a)) : ∀ (n : Nat) (xs : List α), ∀ p ∈ kvF enc n xs, K p.1
  | _, [], p, h => by simp [kvF] at h
  | n, x :: xs, p, h => by
    simp only [kvF, List.mem_cons] at h
    rcases h with rfl | h
    · exact hK x
    · exact keys_kvF hK (n + 1) xs p h
end

/-- Block p is a table of these keys. -/
def TabS (w : World) (p : Nat) (xs : List ByteArray) (F : Nat → Prop) : Prop :=
  ∃ mb lv, w.heap[p]? = some (.cells #[.map (some mb), lv] 69) ∧ MapAt w mb (kvF .string 0 xs) ∧ w.ownsRow 0 9 1 lv xs.length (xs.map .string) ∧ p ≠ mb ∧ lv.ownBlock ≠ some p ∧ lv.ownBlock ≠ some mb ∧
    F = fun k => k = p ∨ k = mb ∨ lv.ownBlock = some k

theorem slice_of_owns {w : World} {base : Nat} {e : TypeId} {size : Nat} {v : Value} {n : Nat} {xs : List Value} (h : w.ownsRow base e size v n xs) : ∃ ad c, v = .slice ad n c := by
  rcases h.2 with ⟨rfl, h0⟩ | ⟨g, cap, cur, rfl, _⟩
  · exact ⟨none, 0, by rw [h0]⟩
  · exact ⟨_, _, rfl⟩

set_option maxHeartbeats 400000 in
theorem lenS (p : Nat) (xs : List ByteArray) (F : Nat → Prop) (w : World) (h : TabS w p xs F) :
    Calls Try.prog 16 #[.pointer (some ⟨p, 0, none⟩)] w fun e w' => e = .returned (.int .i64 xs.length) ∧ w = w' := by
  obtain ⟨mb, lv, hb, hm, hl, _⟩ := h
  have hc := cell_of_blk (i := 1) hb rfl
  obtain ⟨ad, c, rfl⟩ := slice_of_owns hl
  go_enter Try.func16, Try.ntmps16
  go_wp2
  go_ret
  exact ⟨rfl, rfl⟩

theorem str_inj : ∀ a b : ByteArray, Value.string a = Value.string b → a = b := fun _ _ h => by simpa using h
theorem koS : KeyOK Try.prog 9 (fun v => ∃ s, v = .string s) := keyOK_string Try.underlying9
theorem zero3 (w : World) : (zeroValue 3).run Try.prog w = .ok (.int .i64 0) w := by kernel_rfl

/-- What a look-up yields. -/
def found (o : Option Nat) : Value := .tuple #[.int .i64 (o.getD 0 : Nat), .bool o.isSome]

set_option maxHeartbeats 400000 in
theorem findS (p : Nat) (xs : List ByteArray) (F : Nat → Prop) (k : ByteArray) (w : World) (h : TabS w p xs F) :
    Calls Try.prog 19 #[.pointer (some ⟨p, 0, none⟩), .string k] w fun e w' => e = .returned (found (tIx k xs)) ∧ w = w' := by
  obtain ⟨mb, lv, hb, hm, hl, _⟩ := h
  have hc := cell_of_blk (i := 0) hb rfl
  have hlk := lookV_kvF str_inj k 0 xs
  have hk := keys_kvF (enc := Value.string) (K := fun v => ∃ s, v = .string s) (fun a => ⟨a, rfl⟩) 0 xs
  have Hlk := Lib.hid hlk
  clear hlk
  have Hk := Lib.hid hk
  clear hk
  go_enter Try.func19, Try.ntmps19
  go_wp2_with (at_lookup; refine wp_lookup_at rfl _ _ _ _ rfl 9 3 _ koS Try.underlying67 _ (zero3 _) mb _ rfl hm Hk.out _ rfl ⟨_, rfl⟩ ?_)
  go_ret2
  refine ⟨?_, rfl⟩
  rw [Hlk.out]
  cases tIx k xs <;> simp [found]

def tAdd {α : Type} [DecidableEq α] (k : α) (xs : List α) : List α := if (tIx k xs).isSome then xs else xs ++ [k]
def tNo {α : Type} [DecidableEq α] (k : α) (xs : List α) : Nat := (tIx k xs).getD xs.length

/-- What an Id leaves. -/
def IdPost (w : World) (p : Nat) (xs : List ByteArray) (F : Nat → Prop) (k : ByteArray) (e : Ending) (w' : World) : Prop :=
  e = .returned (.int .i64 (tNo k xs : Nat)) ∧ ∃ F', TabS w' p (tAdd k xs) F' ∧ Chg F w w' ∧ ∀ b, F' b → F b ∨ w.heap.size ≤ b

theorem info9 : (Try.prog.info? 9).map (fun i => (i.zero, i.size, i.bytes)) = some (some (.string ByteArray.empty), 1, 16) := by kernel_rfl

set_option maxHeartbeats 400000 in
theorem idS_new (p : Nat) (xs : List ByteArray) (F : Nat → Prop) (k : ByteArray) (w : World) (h : TabS w p xs F) (hn : xs.length < 1000000) (hx : tIx k xs = none) :
    Calls Try.prog 13 #[.pointer (some ⟨p, 0, none⟩), .string k] w (IdPost w p xs F k) := by
  obtain ⟨mb, lv, hb, hm, hl, hpm, hlp, hlm, hF⟩ := h
  obtain ⟨ad, c, rfl⟩ := slice_of_owns hl
  have hc := cell_of_blk (i := 0) hb rfl
  have hc1 := cell_of_blk (i := 1) hb rfl
  have hlk := lookV_kvF str_inj k 0 xs
  rw [hx] at hlk
  have hk := keys_kvF (enc := Value.string) (K := fun v => ∃ s, v = .string s) (fun a => ⟨a, rfl⟩) 0 xs
  have hput := putV_kvF str_inj k 0 xs hx
  rw [Nat.zero_add] at hput
  have Hlk := Lib.hid hlk
  clear hlk
  have Hk := Lib.hid hk
  clear hk
  have Hput := Lib.hid hput
  clear hput
  have Hx := Lib.hid hx
  clear hx
  have HF := Lib.hid hF
  clear hF
  obtain ⟨i0, hi, hz0, hz1, hz2⟩ := info_parts info9
  go_enter Try.func13, Try.ntmps13
  go_wp2_with (first
    | (at_lookup; refine wp_lookup_at rfl _ _ _ _ rfl 9 3 _ koS Try.underlying67 _ (zero3 _) mb _ rfl hm Hk.out (.string k) rfl ⟨_, rfl⟩ ?_; rw [Hlk.out]; simp only [Option.map_none, Option.getD_none, Option.isSome_none, if_true])
    | (at_mapUpdate; refine wp_mapUpdate_at rfl _ _ _ _ rfl 9 3 _ koS Try.underlying67 mb _ rfl hm Hk.out (.string k) rfl ⟨_, rfl⟩ (.int .i64 xs.length) rfl ?_; rw [Hput.out]))
  intro w1 hm1 hg1
  have hb1 := hg1.blk hb hpm
  have hl1 := owns_chg hl hg1 (fun k hk e => hlm (e ▸ hk))
  have hb2 := fun o => blk_alloc hb1 o
  have hl2 := fun o => owns_chg hl1 ((Chg.refl (fun _ => False) w1).alloc o) (fun _ _ e => e)
  have hc2 := cell_of_blk (i := 1) hb1 rfl
  have hf2 := frozen_of_blk (i := 1) hb1
  have Hb2 := Lib.hid hb2
  clear hb2
  have Hl2 := Lib.hid hl2
  clear hl2
  clear hc hc1 hl
  go_wp2_with (first
    | (at_builtin; refine wp_append_at rfl _ _ 36 rfl 9 _ 1 16 Try.underlying36 info9 rfl (by decide) _ xs.length _ rfl (Hl2.out _) w1.heap.size 1 1 _ _ _ rfl (blk_alloc_new _ _) [.string k] rfl rfl ?_ (by decide) ?_ ?_ ?_))
  · simp [Value.oneCell']
  · unfold maxLen; omega
  · omega
  intro g cap w2 hl3 hg3 hg4
  have hg5 := ((Chg.refl (fun k => (Value.slice ad xs.length c).ownBlock = some k) w1).alloc (.cells #[.string k] 9)).trans hg3
  have hb3 := hg5.blk hb1 hlp
  have hm3 := hm1.chg hg5 hlm
  have hc3 := cell_of_blk (i := 1) hb3 rfl
  have hf3 := frozen_of_blk (i := 1) hb3
  clear hc2 hf2 hm1 hb1 hl1
  go_wp2_with fail
  go_ret
  have hs1 := hg1.size
  have hgp : g ≠ p := by rintro rfl; rcases hg4 with h | h; exact hlp h; have := blk_lt hb; omega
  have hgm : g ≠ mb := by rintro rfl; rcases hg4 with h | h; exact hlm h; have := hm.lt; omega
  have hw : Chg (fun k => k = p) w2 (w2.setCell ⟨p, 1, none⟩ (.slice (some ⟨g, 0, none⟩) (xs.length + 1) cap)) := chg_setCell _ _ _ _
  refine ⟨by simp [tNo, Hx.out], _, ⟨mb, .slice (some ⟨g, 0, none⟩) (xs.length + 1) cap, ?_, ?_, ?_, hpm, ?_, ?_, rfl⟩, ?_, ?_⟩
  · have := blk_setCell (i := 1) hb3 (.slice (some ⟨g, 0, none⟩) (xs.length + 1) cap)
    simpa using this
  · simp only [tAdd, Hx.out]; exact hm3.chg hw (Ne.symm hpm)
  · have := owns_chg hl3 hw (fun k hk e => hgp (by simpa [Value.ownBlock, e] using hk))
    simpa [tAdd, Hx.out] using this
  · simpa [Value.ownBlock] using hgp
  · simpa [Value.ownBlock] using hgm
  · rw [HF.out]
    refine ((hg1.mono (fun k _ e => .inr (.inl e))).trans (hg5.mono (fun k _ e => .inr (.inr e)))).trans (hw.mono (fun k _ e => .inl e))
  · rw [HF.out]
    rintro b (h | h | h)
    · exact .inl (.inl h)
    · exact .inl (.inr (.inl h))
    · simp only [Value.ownBlock, Option.some.injEq] at h
      subst h
      rcases hg4 with h | h
      · exact .inl (.inr (.inr h))
      · have := hg1.size; exact .inr (by omega)
end Go.Proofs.Ytlbppfdkcaoijaa
