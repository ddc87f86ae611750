import Derived.Test.YtlbppfdkcaoijaaA2
namespace Go.Proofs.Ytlbppfdkcaoijaa
open Go.RowKit

theorem TabS.chg {w w' : World} {p : Nat} {xs : List ByteArray} {F S : Nat → Prop} (h : TabS w p xs F) (hc : Chg S w w') (hs : ∀ b, F b → ¬ S b) : TabS w' p xs F := by
  obtain ⟨mb, lv, hb, hm, hl, hpm, hlp, hlm, rfl⟩ := h
  exact ⟨mb, lv, hc.blk hb (hs p (.inl rfl)), hm.chg hc (hs mb (.inr (.inl rfl))), owns_chg hl hc (fun k hk => hs k (.inr (.inr hk))), hpm, hlp, hlm, rfl⟩
theorem TabS.lt {w : World} {p : Nat} {xs : List ByteArray} {F : Nat → Prop} (h : TabS w p xs F) : ∀ b, F b → b < w.heap.size := by
  obtain ⟨mb, lv, hb, hm, hl, hpm, hlp, hlm, rfl⟩ := h
  rintro b (rfl | rfl | h)
  · exact blk_lt hb
  · exact hm.lt
  · exact (hl.lt b h).2

theorem one_string (xs : List ByteArray) : ∀ u ∈ xs.map Value.string, u.oneCell' = true := by
  intro u hu; obtain ⟨s, _, rfl⟩ := List.mem_map.1 hu; rfl

set_option maxHeartbeats 400000 in
theorem keysS (p : Nat) (xs : List ByteArray) (F : Nat → Prop) (w : World) (h : TabS w p xs F) (hn : xs.length < 1000000) :
    Calls Try.prog 23 #[.pointer (some ⟨p, 0, none⟩)] w fun e w' => ∃ v', e = .returned v' ∧ w'.ownsRow w.heap.size 9 1 v' xs.length (xs.map .string) ∧ Chg (fun _ => False) w w' := by
  obtain ⟨mb, lv, hb, hm, hl, hpm, hlp, hlm, hF⟩ := h
  have hc := cell_of_blk (i := 1) hb rfl
  have hrd := Rd.of_owns hl
  have H := cloneS lv xs.length _ _ w hrd (by omega) (one_string xs)
  have HC := Lib.hid H
  clear H
  obtain ⟨ad, c, rfl⟩ := slice_of_owns hl
  clear hl hrd hlp hlm hF hm
  go_enter Try.func23, Try.ntmps23
  go_wp2_with (go_at_call 30; refine HC.out.mono ?_; rintro e w' ⟨v', rfl, h1, h2⟩)
  go_ret
  exact ⟨_, rfl, h1, h2⟩

def tAll {α : Type} [DecidableEq α] (xs : List α) : List α := xs.foldl (fun t k => tAdd k t) []
theorem tAdd_len {α : Type} [DecidableEq α] (k : α) (t : List α) : (tAdd k t).length ≤ t.length + 1 := by unfold tAdd; split <;> simp
theorem tAll_take {α : Type} [DecidableEq α] (xs : List α) (k : Nat) (h : k < xs.length) : tAll (xs.take (k + 1)) = tAdd xs[k] (tAll (xs.take k)) := by
  unfold tAll; rw [List.take_succ_eq_append_getElem h, List.foldl_append]; rfl
theorem tAll_len {α : Type} [DecidableEq α] (xs : List α) : (tAll xs).length ≤ xs.length := by
  suffices h : ∀ (xs t : List α), (xs.foldl (fun t k => tAdd k t) t).length ≤ t.length + xs.length by simpa [tAll] using h xs []
  intro xs
  induction xs with
  | nil => intro t; simp
  | cons x xs ih => intro t; have h1 := ih (tAdd x t); have h2 := tAdd_len x t; simp only [List.foldl_cons, List.length_cons]; omega

/-- What New leaves. -/
def NewPost (w : World) (xs : List ByteArray) (e : Ending) (w' : World) : Prop :=
  ∃ p F, e = .returned (.pointer (some ⟨p, 0, none⟩)) ∧ TabS w' p (tAll xs) F ∧ Chg (fun _ => False) w w' ∧ (∀ b, F b → w.heap.size ≤ b)

/-- The loop's state. -/
def NewRel (w : World) (p : Nat) (xs : List ByteArray) (k : Nat) (wr : World) : Prop :=
  ∃ F, TabS wr p (tAll (xs.take k)) F ∧ Chg (fun _ => False) w wr ∧ (∀ b, F b → w.heap.size ≤ b)

set_option maxHeartbeats 400000 in
theorem newS (v : Value) (xs : List ByteArray) (G : Nat → Prop) (w : World) (h : Rd w v 1 xs.length (xs.map .string) G) (hn : xs.length < 1000000) :
    Calls Try.prog 10 #[v] w (NewPost w xs) := by
  have hrd := Lib.hid h
  obtain ⟨hlen, hmax, ad, cap, rfl, h4, h5, h6, h7⟩ := h
  have hmm := @run_makeMap Try.prog
  clear h4 h5 h6 hlen hmax
  go_enter Try.func10, Try.ntmps10
  go_wp2_with fail
  go_loopw [5, 11] (fun x i wr => ∃ k : Nat, k ≤ xs.length ∧ i = .int .i64 k ∧ NewRel w (w.heap.size + 1) xs k wr) (fun _ i _ => xs.length - (intOf i).toNat)
  case atStart =>
    refine ⟨0, Nat.zero_le _, rfl, _, ⟨w.heap.size, .slice none 0 0, ?_, ?_, ?_, by omega, by simp [Value.ownBlock], by simp [Value.ownBlock], rfl⟩, ?_, ?_⟩
    · have := blk_alloc_new (w.alloc (.map #[] 0)) (.cells #[.map (some w.heap.size), .slice none 0 0] 69)
      simpa using this
    · exact (mapAt_made w).chg (chg_alloc (fun _ => False) _ _) (fun e => e)
    · exact World.ownsRow_nil _ _ _ _
    · exact ((Chg.refl _ _).alloc _).alloc _
    · rintro b (rfl | rfl | h)
      · omega
      · omega
      · simp [Value.ownBlock] at h
  case round =>
    obtain ⟨k, hk, rfl, F, hT, hC, hF⟩ := hrel
    by_cases hlt : k < xs.length
    · obtain ⟨b, off, rfl, hG, hcl⟩ : ∃ b off, ad = some ⟨b, off, none⟩ ∧ _ ∧ _ := h7.resolve_left (by omega)
      have hc := hC.cell (hcl k (.string xs[k]) (by simp [hlt])) (fun e => e)
      have hb1 : (0 : Int) ≤ (k : Int) := by omega
      have hb2 : (k : Int) < xs.length := by omega
      have hT' := idS (w.heap.size + 1) _ F xs[k] wr hT (by have := tAll_len (xs.take k); simp at this; omega)
      have HT := Lib.hid hT'
      clear hT' hcl h7
      go_wp2_with (go_at_call 13; refine HT.out.mono ?_; rintro e w1 ⟨rfl, F1, h1, h2, h3⟩)
      go_roundw
      case rel =>
        refine ⟨k + 1, by omega, by go_num, F1, ?_, ?_, ?_⟩
        · rw [tAll_take xs k hlt]; exact h1
        · exact hC.then' h2 (fun b hb hf => by have := hF b hf; omega)
        · intro b hb
          rcases h3 b hb with h | h
          · exact hF b h
          · have := hC.size; omega
      case measure => simp [intOf]; omega
    · go_wp2_with fail
      go_ret
      have hke : k = xs.length := by omega
      subst hke
      rw [List.take_length] at hT
      exact ⟨_, F, rfl, hT, hC, hF⟩
end Go.Proofs.Ytlbppfdkcaoijaa
