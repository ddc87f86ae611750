/- Contracts of the table of bytes: A1's to A3's, turned by subst.py. -/
import Derived.Test.YtlbppfdkcaoijaaA3
namespace Go.Proofs.Ytlbppfdkcaoijaa
open Go.RowKit

/-- Block p is a table of these keys. -/
def TabU (w : World) (p : Nat) (xs : List Int) (F : Nat → Prop) : Prop :=
  ∃ mb lv, w.heap[p]? = some (.cells #[.map (some mb), lv] 66) ∧ MapAt w mb (kvF (Value.int IntKind.u8) 0 xs) ∧ w.ownsRow 0 5 1 lv xs.length (xs.map (Value.int IntKind.u8)) ∧ p ≠ mb ∧ lv.ownBlock ≠ some p ∧ lv.ownBlock ≠ some mb ∧
    F = fun k => k = p ∨ k = mb ∨ lv.ownBlock = some k

set_option maxHeartbeats 400000 in
theorem lenU (p : Nat) (xs : List Int) (F : Nat → Prop) (w : World) (h : TabU w p xs F) :
    Calls Try.prog 15 #[.pointer (some ⟨p, 0, none⟩)] w fun e w' => e = .returned (.int .i64 xs.length) ∧ w = w' := by
  obtain ⟨mb, lv, hb, hm, hl, _⟩ := h
  have hc := cell_of_blk (i := 1) hb rfl
  obtain ⟨ad, c, rfl⟩ := slice_of_owns hl
  go_enter Try.func15, Try.ntmps15
  go_wp2
  go_ret
  exact ⟨rfl, rfl⟩

theorem u8_inj : ∀ a b : Int, Value.int .u8 a = Value.int .u8 b → a = b := fun _ _ h => by simpa using h
theorem koU : KeyOK Try.prog 5 (fun v => ∃ n, v = .int .u8 n) := keyOK_int Try.underlying5
/-- What an Id leaves. -/
def IdPostU (w : World) (p : Nat) (xs : List Int) (F : Nat → Prop) (k : Int) (e : Ending) (w' : World) : Prop :=
  e = .returned (.int .i64 (tNo k xs : Nat)) ∧ ∃ F', TabU w' p (tAdd k xs) F' ∧ Chg F w w' ∧ ∀ b, F' b → F b ∨ w.heap.size ≤ b

theorem info5 : (Try.prog.info? 5).map (fun i => (i.zero, i.size, i.bytes)) = some (some (.int .u8 0), 1, 1) := by kernel_rfl

set_option maxHeartbeats 400000 in
theorem idU_new (p : Nat) (xs : List Int) (F : Nat → Prop) (k : Int) (w : World) (h : TabU w p xs F) (hn : xs.length < 1000000) (hx : tIx k xs = none) :
    Calls Try.prog 12 #[.pointer (some ⟨p, 0, none⟩), .int .u8 k] w (IdPostU w p xs F k) := by
  obtain ⟨mb, lv, hb, hm, hl, hpm, hlp, hlm, hF⟩ := h
  obtain ⟨ad, c, rfl⟩ := slice_of_owns hl
  have hc := cell_of_blk (i := 0) hb rfl
  have hc1 := cell_of_blk (i := 1) hb rfl
  have hlk := lookV_kvF u8_inj k 0 xs
  rw [hx] at hlk
  have hk := keys_kvF (enc := Value.int IntKind.u8) (K := fun v => ∃ n, v = .int .u8 n) (fun a => ⟨a, rfl⟩) 0 xs
  have hput := putV_kvF u8_inj k 0 xs hx
  rw [Nat.zero_add] at hput
  have Hlk := Lib.hid hlk
  clear hlk
  have Hk := Lib.hid hk
  clear hk
  have Hput := Lib.hid hput
  clear hput
  have Hx := Lib.hid hx
  clear hx
  have HF := Lib.hid hF
  clear hF
  obtain ⟨i0, hi, hz0, hz1, hz2⟩ := info_parts info5
  go_enter Try.func12, Try.ntmps12
  go_wp2_with (first
    | (at_lookup; refine wp_lookup_at rfl _ _ _ _ rfl 5 3 _ koU Try.underlying64 _ (zero3 _) mb _ rfl hm Hk.out (.int .u8 k) rfl ⟨_, rfl⟩ ?_; rw [Hlk.out]; simp only [Option.map_none, Option.getD_none, Option.isSome_none, if_true])
    | (at_mapUpdate; refine wp_mapUpdate_at rfl _ _ _ _ rfl 5 3 _ koU Try.underlying64 mb _ rfl hm Hk.out (.int .u8 k) rfl ⟨_, rfl⟩ (.int .i64 xs.length) rfl ?_; rw [Hput.out]))
  intro w1 hm1 hg1
  have hb1 := hg1.blk hb hpm
  have hl1 := owns_chg hl hg1 (fun k hk e => hlm (e ▸ hk))
  have hb2 := fun o => blk_alloc hb1 o
  have hl2 := fun o => owns_chg hl1 ((Chg.refl (fun _ => False) w1).alloc o) (fun _ _ e => e)
  have hc2 := cell_of_blk (i := 1) hb1 rfl
  have hf2 := frozen_of_blk (i := 1) hb1
  have Hb2 := Lib.hid hb2
  clear hb2
  have Hl2 := Lib.hid hl2
  clear hl2
  clear hc hc1 hl
  go_wp2_with (first
    | (at_builtin; refine wp_append_at rfl _ _ 22 rfl 5 _ 1 1 Try.underlying22 info5 rfl (by decide) _ xs.length _ rfl (Hl2.out _) w1.heap.size 1 1 _ _ _ rfl (blk_alloc_new _ _) [.int .u8 k] rfl rfl ?_ (by decide) ?_ ?_ ?_))
  · simp [Value.oneCell']
  · unfold maxLen; omega
  · omega
  intro g cap w2 hl3 hg3 hg4
  have hg5 := ((Chg.refl (fun k => (Value.slice ad xs.length c).ownBlock = some k) w1).alloc (.cells #[.int .u8 k] 5)).trans hg3
  have hb3 := hg5.blk hb1 hlp
  have hm3 := hm1.chg hg5 hlm
  have hc3 := cell_of_blk (i := 1) hb3 rfl
  have hf3 := frozen_of_blk (i := 1) hb3
  clear hc2 hf2 hm1 hb1 hl1
  go_wp2_with fail
  go_ret
  have hs1 := hg1.size
  have hgp : g ≠ p := by rintro rfl; rcases hg4 with h | h; exact hlp h; have := blk_lt hb; omega
  have hgm : g ≠ mb := by rintro rfl; rcases hg4 with h | h; exact hlm h; have := hm.lt; omega
  have hw : Chg (fun k => k = p) w2 (w2.setCell ⟨p, 1, none⟩ (.slice (some ⟨g, 0, none⟩) (xs.length + 1) cap)) := chg_setCell _ _ _ _
  refine ⟨by simp [tNo, Hx.out], _, ⟨mb, .slice (some ⟨g, 0, none⟩) (xs.length + 1) cap, ?_, ?_, ?_, hpm, ?_, ?_, rfl⟩, ?_, ?_⟩
  · have := blk_setCell (i := 1) hb3 (.slice (some ⟨g, 0, none⟩) (xs.length + 1) cap)
    simpa using this
  · simp only [tAdd, Hx.out]; exact hm3.chg hw (Ne.symm hpm)
  · have := owns_chg hl3 hw (fun k hk e => hgp (by simpa [Value.ownBlock, e] using hk))
    simpa [tAdd, Hx.out] using this
  · simpa [Value.ownBlock] using hgp
  · simpa [Value.ownBlock] using hgm
  · rw [HF.out]
    refine ((hg1.mono (fun k _ e => .inr (.inl e))).trans (hg5.mono (fun k _ e => .inr (.inr e)))).trans (hw.mono (fun k _ e => .inl e))
  · rw [HF.out]
    rintro b (h | h | h)
    · exact .inl (.inl h)
    · exact .inl (.inr (.inl h))
    · simp only [Value.ownBlock, Option.some.injEq] at h
      subst h
      rcases hg4 with h | h
      · exact .inl (.inr (.inr h))
      · have := hg1.size; exact .inr (by omega)
set_option maxHeartbeats 400000 in
theorem idU_old (p : Nat) (xs : List Int) (F : Nat → Prop) (k : Int) (w : World) (h : TabU w p xs F) (i : Nat) (hx : tIx k xs = some i) :
    Calls Try.prog 12 #[.pointer (some ⟨p, 0, none⟩), .int .u8 k] w (IdPostU w p xs F k) := by
  have Htab := Lib.hid h
  obtain ⟨mb, lv, hb, hm, hl, hpm, hlp, hlm, hF⟩ := h
  have hc := cell_of_blk (i := 0) hb rfl
  have hlk := lookV_kvF u8_inj k 0 xs
  rw [hx] at hlk
  have hk := keys_kvF (enc := Value.int IntKind.u8) (K := fun v => ∃ n, v = .int .u8 n) (fun a => ⟨a, rfl⟩) 0 xs
  have Hlk := Lib.hid hlk
  clear hlk
  have Hk := Lib.hid hk
  clear hk
  have Hx := Lib.hid hx
  clear hx hF hlp hlm
  go_enter Try.func12, Try.ntmps12
  go_wp2_with (first
    | (at_lookup; refine wp_lookup_at rfl _ _ _ _ rfl 5 3 _ koU Try.underlying64 _ (zero3 _) mb _ rfl hm Hk.out (.int .u8 k) rfl ⟨_, rfl⟩ ?_; rw [Hlk.out]; simp only [Option.map_some, Option.getD_some, Option.isSome_some, if_true]))
  go_ret
  exact ⟨by simp [tNo, Hx.out], F, by simpa [tAdd, Hx.out] using Htab.out, Chg.refl _ _, fun _ h => .inl h⟩

theorem idU (p : Nat) (xs : List Int) (F : Nat → Prop) (k : Int) (w : World) (h : TabU w p xs F) (hn : xs.length < 1000000) :
    Calls Try.prog 12 #[.pointer (some ⟨p, 0, none⟩), .int .u8 k] w (IdPostU w p xs F k) := by
  cases hx : tIx k xs with
  | none => exact idU_new p xs F k w h hn hx
  | some i => exact idU_old p xs F k w h i hx

theorem TabU.chg {w w' : World} {p : Nat} {xs : List Int} {F S : Nat → Prop} (h : TabU w p xs F) (hc : Chg S w w') (hs : ∀ b, F b → ¬ S b) : TabU w' p xs F := by
  obtain ⟨mb, lv, hb, hm, hl, hpm, hlp, hlm, rfl⟩ := h
  exact ⟨mb, lv, hc.blk hb (hs p (.inl rfl)), hm.chg hc (hs mb (.inr (.inl rfl))), owns_chg hl hc (fun k hk => hs k (.inr (.inr hk))), hpm, hlp, hlm, rfl⟩
theorem TabU.lt {w : World} {p : Nat} {xs : List Int} {F : Nat → Prop} (h : TabU w p xs F) : ∀ b, F b → b < w.heap.size := by
  obtain ⟨mb, lv, hb, hm, hl, hpm, hlp, hlm, rfl⟩ := h
  rintro b (rfl | rfl | h)
  · exact blk_lt hb
  · exact hm.lt
  · exact (hl.lt b h).2

/-- What New leaves. -/
def NewPostU (w : World) (xs : List Int) (e : Ending) (w' : World) : Prop :=
  ∃ p F, e = .returned (.pointer (some ⟨p, 0, none⟩)) ∧ TabU w' p (tAll xs) F ∧ Chg (fun _ => False) w w' ∧ (∀ b, F b → w.heap.size ≤ b)

/-- The loop's state. -/
def NewRelU (w : World) (p : Nat) (xs : List Int) (k : Nat) (wr : World) : Prop :=
  ∃ F, TabU wr p (tAll (xs.take k)) F ∧ Chg (fun _ => False) w wr ∧ (∀ b, F b → w.heap.size ≤ b)

set_option maxHeartbeats 400000 in
theorem newU (v : Value) (xs : List Int) (G : Nat → Prop) (w : World) (h : Rd w v 1 xs.length (xs.map (Value.int IntKind.u8)) G) (hn : xs.length < 1000000) :
    Calls Try.prog 9 #[v] w (NewPostU w xs) := by
  have hrd := Lib.hid h
  obtain ⟨hlen, hmax, ad, cap, rfl, h4, h5, h6, h7⟩ := h
  have hmm := @run_makeMap Try.prog
  clear h4 h5 h6 hlen hmax
  go_enter Try.func9, Try.ntmps9
  go_wp2_with fail
  go_loopw [5, 11] (fun x i wr => ∃ k : Nat, k ≤ xs.length ∧ i = .int .i64 k ∧ NewRelU w (w.heap.size + 1) xs k wr) (fun _ i _ => xs.length - (intOf i).toNat)
  case atStart =>
    refine ⟨0, Nat.zero_le _, rfl, _, ⟨w.heap.size, .slice none 0 0, ?_, ?_, ?_, by omega, by simp [Value.ownBlock], by simp [Value.ownBlock], rfl⟩, ?_, ?_⟩
    · have := blk_alloc_new (w.alloc (.map #[] 0)) (.cells #[.map (some w.heap.size), .slice none 0 0] 66)
      simpa using this
    · exact (mapAt_made w).chg (chg_alloc (fun _ => False) _ _) (fun e => e)
    · exact World.ownsRow_nil _ _ _ _
    · exact ((Chg.refl _ _).alloc _).alloc _
    · rintro b (rfl | rfl | h)
      · omega
      · omega
      · simp [Value.ownBlock] at h
  case round =>
    obtain ⟨k, hk, rfl, F, hT, hC, hF⟩ := hrel
    by_cases hlt : k < xs.length
    · obtain ⟨b, off, rfl, hG, hcl⟩ : ∃ b off, ad = some ⟨b, off, none⟩ ∧ _ ∧ _ := h7.resolve_left (by omega)
      have hc := hC.cell (hcl k (.int .u8 xs[k]) (by simp [hlt])) (fun e => e)
      have hb1 : (0 : Int) ≤ (k : Int) := by omega
      have hb2 : (k : Int) < xs.length := by omega
      have hT' := idU (w.heap.size + 1) _ F xs[k] wr hT (by have := tAll_len (xs.take k); simp at this; omega)
      have HT := Lib.hid hT'
      clear hT' hcl h7
      go_wp2_with (go_at_call 12; refine HT.out.mono ?_; rintro e w1 ⟨rfl, F1, h1, h2, h3⟩)
      go_roundw
      case rel =>
        refine ⟨k + 1, by omega, by go_num, F1, ?_, ?_, ?_⟩
        · rw [tAll_take xs k hlt]; exact h1
        · exact hC.then' h2 (fun b hb hf => by have := hF b hf; omega)
        · intro b hb
          rcases h3 b hb with h | h
          · exact hF b h
          · have := hC.size; omega
      case measure => simp [intOf]; omega
    · go_wp2_with fail
      go_ret
      have hke : k = xs.length := by omega
      subst hke
      rw [List.take_length] at hT
      exact ⟨_, F, rfl, hT, hC, hF⟩
end Go.Proofs.Ytlbppfdkcaoijaa
