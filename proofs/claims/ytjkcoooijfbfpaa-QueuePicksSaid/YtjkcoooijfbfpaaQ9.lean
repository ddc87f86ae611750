/- Sorted lists: the plain laws behind QueuePicks. -/
import Derived.Test.YtjkcoooijfbfpaaQ6
namespace Go.Proofs.Ytjkcoooijfbfpaa
open Go.RowKit Go.Shelf

theorem snoc_rec {P : List Int → Prop} (nil : P []) (snoc : ∀ l x, P l → P (l ++ [x])) (l : List Int) : P l := by
  have h : ∀ m : List Int, P m.reverse := by
    intro m
    induction m with
    | nil => exact nil
    | cons x m ih => rw [List.reverse_cons]; exact snoc _ _ ih
  have := h l.reverse
  rwa [List.reverse_reverse] at this

/-- A strictly rising list. -/
def Rises (l : List Int) : Prop := l.Pairwise (· < ·)

/-- gnomonref01.Add. -/
def insS (i : Int) (l : List Int) : List Int := if i < 0 ∨ i ∈ l then l else l.takeWhile (fun x => decide (x < i)) ++ i :: l.dropWhile (fun x => decide (x < i))

theorem rises_same : ∀ {a b : List Int}, Rises a → Rises b → (∀ x, x ∈ a ↔ x ∈ b) → a = b
  | [], [], _, _, _ => rfl
  | [], y :: b, _, _, h => by have := (h y).2 (by simp); simp at this
  | x :: a, [], _, _, h => by have := (h x).1 (by simp); simp at this
  | x :: a, y :: b, ha, hb, h => by
    have ha' := List.pairwise_cons.1 ha
    have hb' := List.pairwise_cons.1 hb
    have hxy : x = y := by
      have h1 := (h x).1 (by simp)
      have h2 := (h y).2 (by simp)
      rcases List.mem_cons.1 h1 with e | e
      · exact e
      · rcases List.mem_cons.1 h2 with e2 | e2
        · exact e2.symm
        · have := hb'.1 x e; have := ha'.1 y e2; omega
    subst hxy
    have : a = b := rises_same ha'.2 hb'.2 (fun z => by
      constructor
      · intro hz
        rcases List.mem_cons.1 ((h z).1 (by simp [hz])) with e | e
        · have := ha'.1 z hz; omega
        · exact e
      · intro hz
        rcases List.mem_cons.1 ((h z).2 (by simp [hz])) with e | e
        · have := hb'.1 z hz; omega
        · exact e)
    rw [this]

theorem ins_mem (i : Int) (l : List Int) (h : 0 ≤ i) (x : Int) : x ∈ insS i l ↔ x = i ∨ x ∈ l := by
  unfold insS
  split
  · rename_i hc
    rcases hc with hc | hc
    · omega
    · constructor
      · exact fun hx => .inr hx
      · rintro (rfl | hx)
        · exact hc
        · exact hx
  · have := List.takeWhile_append_dropWhile (p := fun x => decide (x < i)) (l := l)
    constructor
    · intro hx
      rcases List.mem_append.1 hx with hx | hx
      · exact .inr (by rw [← this]; exact List.mem_append_left _ hx)
      · rcases List.mem_cons.1 hx with hx | hx
        · exact .inl hx
        · exact .inr (by rw [← this]; exact List.mem_append_right _ hx)
    · rintro (rfl | hx)
      · simp
      · rw [← this] at hx
        rcases List.mem_append.1 hx with hx | hx
        · exact List.mem_append_left _ hx
        · exact List.mem_append_right _ (List.mem_cons_of_mem _ hx)

theorem tw_lt {i : Int} : ∀ {l : List Int} {x : Int}, x ∈ l.takeWhile (fun x => decide (x < i)) → x < i
  | y :: l, x, h => by
    rw [List.takeWhile_cons] at h
    split at h
    · rename_i hy
      rcases List.mem_cons.1 h with rfl | h
      · simpa using hy
      · exact tw_lt h
    · simp at h
theorem dw_ge {i : Int} : ∀ {l : List Int}, Rises l → ∀ {x : Int}, x ∈ l.dropWhile (fun x => decide (x < i)) → i ≤ x
  | y :: l, hr, x, h => by
    rw [List.dropWhile_cons] at h
    have hr' := List.pairwise_cons.1 hr
    split at h
    · exact dw_ge hr'.2 h
    · rename_i hy
      simp at hy
      rcases List.mem_cons.1 h with rfl | h
      · exact hy
      · have := hr'.1 x h; omega
theorem ins_rises (i : Int) (l : List Int) (h : Rises l) : Rises (insS i l) := by
  unfold insS
  split
  · exact h
  · rename_i hc
    have e := List.takeWhile_append_dropWhile (p := fun x => decide (x < i)) (l := l)
    have hr := h
    unfold Rises at h ⊢
    rw [← e, List.pairwise_append] at h
    obtain ⟨h1, h2, h3⟩ := h
    rw [List.pairwise_append]
    refine ⟨h1, List.pairwise_cons.2 ⟨fun x hx => ?_, h2⟩, fun a ha b hb => ?_⟩
    · have := dw_ge hr hx
      have : x ∈ l := by rw [← e]; exact List.mem_append_right _ hx
      have hne : i ≠ x := fun e => hc (.inr (e ▸ this))
      omega
    · rcases List.mem_cons.1 hb with rfl | hb
      · exact tw_lt ha
      · exact h3 a ha b hb

/-- Who waits, rising. -/
def ws (bs : List Bool) : List Int := (prs bs bs.length).map fun x => (x.2 : Int)
theorem prs_rises (bs : List Bool) (j : Nat) : Rises ((prs bs j).map fun x => (x.2 : Int)) ∧ ∀ x ∈ prs bs j, x.2 < j := by
  induction j with
  | zero => simp [prs, Rises]
  | succ j ih =>
    obtain ⟨h1, h2⟩ := ih
    rw [prs]
    split
    · refine ⟨?_, ?_⟩
      · unfold Rises at *
        rw [List.map_append, List.pairwise_append]
        refine ⟨h1, by simp, fun a ha b hb => ?_⟩
        obtain ⟨x, hx, rfl⟩ := List.mem_map.1 ha
        simp at hb
        have := h2 x hx
        omega
      · intro x hx
        rcases List.mem_append.1 hx with hx | hx
        · have := h2 x hx; omega
        · simp at hx; subst hx; simp
    · exact ⟨h1, fun x hx => by have := h2 x hx; omega⟩
theorem prs_mem (bs : List Bool) (j i : Nat) (hi : i < j) (h : bs[i]? = some true) : ∃ k, (k, i) ∈ prs bs j := by
  induction j with
  | zero => omega
  | succ j ih =>
    rw [prs]
    by_cases hij : i = j
    · subst hij; rw [if_pos h]; exact ⟨_, List.mem_append_right _ (by simp; rfl)⟩
    · obtain ⟨k, hk⟩ := ih (by omega)
      split
      · exact ⟨k, List.mem_append_left _ hk⟩
      · exact ⟨k, hk⟩
theorem ws_mem (s : Qs) (x : Int) : x ∈ ws s.bs ↔ s.has x = true := by
  unfold ws Qs.has
  rw [List.mem_map, Bool.and_eq_true, decide_eq_true_iff]
  constructor
  · rintro ⟨y, hy, rfl⟩
    obtain ⟨k, hk⟩ := List.getElem?_of_mem hy
    obtain ⟨_, _, h, _⟩ := prs_get _ _ _ _ hk
    exact ⟨by omega, by simp [h]⟩
  · rintro ⟨h0, h⟩
    obtain ⟨i, rfl⟩ := Int.eq_ofNat_of_zero_le h0
    simp only [Int.toNat_natCast] at h
    have hb : s.bs[i]? = some true := by cases he : s.bs[i]? with
      | none => rw [he] at h; simp at h
      | some b => rw [he] at h; simp at h; rw [h]
    obtain ⟨k, hk⟩ := prs_mem s.bs s.bs.length i (List.getElem?_eq_some_iff.1 hb).1 hb
    exact ⟨_, hk, rfl⟩
theorem ws_rises (bs : List Bool) : Rises (ws bs) := (prs_rises bs _).1
theorem ws_len (s : Qs) : (ws s.bs).length = s.cnt := by unfold ws; rw [List.length_map, prs_all]; rfl
theorem ws_next (s : Qs) (h : 0 < s.cnt) : (ws s.bs)[s.pick]? = some (s.next : Int) := by
  have hp : s.pick < s.cnt := by unfold Qs.pick; split <;> omega
  have hl : s.pick < (prs s.bs s.bs.length).length := by rw [prs_all]; exact hp
  unfold ws Qs.next
  rw [List.getElem?_map, List.getElem?_eq_getElem hl]
  rfl

/-- What the inner loop has gathered behind so many of l. -/
def gath (s : Qs) (l : List Int) : List Int := l.foldl (fun a x => if s.has x then insS x a else a) []
theorem gath_snoc (s : Qs) (l : List Int) (x : Int) : gath s (l ++ [x]) = if s.has x then insS x (gath s l) else gath s l := by simp [gath]
theorem gath_spec (s : Qs) (l : List Int) : Rises (gath s l) ∧ ∀ x, x ∈ gath s l ↔ x ∈ l ∧ s.has x = true := by
  induction l using snoc_rec with
  | nil => simp [gath, Rises]
  | snoc l y ih =>
    obtain ⟨h1, h2⟩ := ih
    rw [gath_snoc]
    split
    · rename_i hy
      have hy0 : 0 ≤ y := by unfold Qs.has at hy; simp at hy; exact hy.1
      refine ⟨ins_rises _ _ h1, fun x => ?_⟩
      rw [ins_mem _ _ hy0, h2]
      constructor
      · rintro (rfl | ⟨a, b⟩)
        · exact ⟨by simp, hy⟩
        · exact ⟨by simp [a], b⟩
      · rintro ⟨a, b⟩
        rcases List.mem_append.1 a with a | a
        · exact .inr ⟨a, b⟩
        · simp at a; exact .inl a
    · rename_i hy
      refine ⟨h1, fun x => ?_⟩
      rw [h2]
      constructor
      · rintro ⟨a, b⟩; exact ⟨by simp [a], b⟩
      · rintro ⟨a, b⟩
        rcases List.mem_append.1 a with a | a
        · exact ⟨a, b⟩
        · simp at a; subst a; exact absurd b hy
theorem gath_all (s : Qs) (l : List Int) (h : ∀ x, s.has x = true → x ∈ l) : gath s l = ws s.bs :=
  rises_same (gath_spec s l).1 (ws_rises _) (fun x => by
    rw [(gath_spec s l).2, ws_mem]
    exact ⟨fun h => h.2, fun hx => ⟨h x hx, hx⟩⟩)
theorem gath_len (s : Qs) (l : List Int) : (gath s l).length ≤ l.length := by
  induction l using snoc_rec with
  | nil => simp [gath]
  | snoc l y ih =>
    rw [gath_snoc]
    split
    · have : (insS y (gath s l)).length ≤ (gath s l).length + 1 := by
        unfold insS; split
        · omega
        · have e := congrArg List.length (List.takeWhile_append_dropWhile (p := fun x => decide (x < y)) (l := gath s l))
          rw [List.length_append] at e
          rw [List.length_append, List.length_cons]; omega
      simp; omega
    · simp; omega
end Go.Proofs.Ytjkcoooijfbfpaa
