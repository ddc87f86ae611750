/- Plain facts on tables as lists. -/
import Derived.Test.YtlbppfdkcaoijaaA3
namespace Go.Proofs.Ytlbppfdkcaoijaa
section
variable {α : Type} [DecidableEq α]
theorem tIx_none {k : α} : ∀ {xs : List α}, tIx k xs = none ↔ k ∉ xs
  | [] => by simp [tIx]
  | x :: xs => by
    simp only [tIx, List.mem_cons, not_or]
    by_cases h : x = k
    · simp [h]
    · rw [if_neg h, Option.map_eq_none_iff, tIx_none]; simp [Ne.symm h, eq_comm, h]
theorem tIx_get {k : α} : ∀ {xs : List α} {i : Nat}, tIx k xs = some i → xs[i]? = some k
  | [], _, h => by simp [tIx] at h
  | x :: xs, i, h => by
    simp only [tIx] at h
    by_cases hx : x = k
    · rw [if_pos hx] at h; simp at h; subst h; simp [hx]
    · rw [if_neg hx] at h
      cases h2 : tIx k xs with
      | none => simp [h2] at h
      | some j => simp [h2] at h; subst h; simpa using tIx_get h2
theorem tIx_some_of_mem {k : α} {xs : List α} (h : k ∈ xs) : ∃ i, tIx k xs = some i := by
  cases e : tIx k xs with
  | none => exact absurd h (tIx_none.1 e)
  | some i => exact ⟨i, rfl⟩
theorem tIx_nodup {k : α} {xs : List α} {i : Nat} (hn : xs.Nodup) (h : xs[i]? = some k) : tIx k xs = some i := by
  obtain ⟨j, hj⟩ := tIx_some_of_mem (List.mem_of_getElem? h)
  have h2 := tIx_get hj
  have hi : i < xs.length := (List.getElem?_eq_some_iff.1 h).1
  rw [hj, (List.getElem?_inj hi hn).1 (h.trans h2.symm)]
theorem tAdd_of_mem {k : α} {xs : List α} (h : k ∈ xs) : tAdd k xs = xs := by
  obtain ⟨i, hi⟩ := tIx_some_of_mem h
  simp [tAdd, hi]
theorem tAdd_of_not {k : α} {xs : List α} (h : k ∉ xs) : tAdd k xs = xs ++ [k] := by
  simp [tAdd, tIx_none.2 h]
theorem mem_tAdd {k x : α} {xs : List α} : x ∈ tAdd k xs ↔ x ∈ xs ∨ x = k := by
  by_cases h : k ∈ xs
  · rw [tAdd_of_mem h]; exact ⟨.inl, fun e => e.elim id (fun e => e ▸ h)⟩
  · rw [tAdd_of_not h]; simp
theorem nodup_tAdd {k : α} {xs : List α} (hn : xs.Nodup) : (tAdd k xs).Nodup := by
  by_cases h : k ∈ xs
  · rw [tAdd_of_mem h]; exact hn
  · rw [tAdd_of_not h, List.nodup_append]; exact ⟨hn, by simp, by rintro a ha b hb rfl; simp at hb; subst hb; exact h ha⟩
theorem fold_mem {x : α} : ∀ (xs t : List α), x ∈ xs.foldl (fun t k => tAdd k t) t ↔ x ∈ t ∨ x ∈ xs
  | [], t => by simp
  | y :: xs, t => by rw [List.foldl_cons, fold_mem, mem_tAdd]; simp [or_assoc]
theorem mem_tAll {x : α} {xs : List α} : x ∈ tAll xs ↔ x ∈ xs := by simp [tAll, fold_mem]
theorem fold_nodup : ∀ (xs t : List α), t.Nodup → (xs.foldl (fun t k => tAdd k t) t).Nodup
  | [], t, h => h
  | y :: xs, t, h => fold_nodup xs _ (nodup_tAdd h)
theorem nodup_tAll (xs : List α) : (tAll xs).Nodup := fold_nodup xs [] List.nodup_nil
theorem fold_of_nodup : ∀ (xs t : List α), (t ++ xs).Nodup → xs.foldl (fun t k => tAdd k t) t = t ++ xs
  | [], t, _ => by simp
  | y :: xs, t, h => by
    have hy : y ∉ t := fun e => by rw [List.nodup_append] at h; exact h.2.2 y e y (by simp) rfl
    rw [List.foldl_cons, tAdd_of_not hy, fold_of_nodup xs (t ++ [y]) (by simpa using h)]; simp
theorem tAll_of_nodup {xs : List α} (h : xs.Nodup) : tAll xs = xs := by have := fold_of_nodup xs [] (by simpa using h); simpa [tAll] using this
end
end Go.Proofs.Ytlbppfdkcaoijaa
