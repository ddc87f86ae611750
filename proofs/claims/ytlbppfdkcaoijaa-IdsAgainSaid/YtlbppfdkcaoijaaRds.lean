/- From the readings of the arguments to slices that are read. No program in sight. -/
import Derived.Test.YtlbppfdkcaoijaaLib
import Derived.ProofKit
import Derived.OpenShut
namespace Go.Proofs.Ytlbppfdkcaoijaa
open Go.RowKit Go.ChangeShapes Go.WideShapes

theorem rd_strings {H : Type} {enc : TypeId × Value → H} {P : Program} {W : World} {base : Nat} {t e : TypeId} {v : Value} {d : DataW H} {ps : List MemPlace} (ht : P.underlying t = some (.slice e)) (he : P.underlying e = some .string) (hc : P.cellsOf e = 1)
    (ho : Value.okWide P W .any base t v) (h : DataW.Trod enc P W 0 (fun _ => true) true t v d ps) :
    ∃ xs : List ByteArray, Rd W v 1 xs.length (xs.map .string) (fun b => b < W.heap.size) ∧ ∀ s ∈ xs, s.size ≤ maxLen := by
  obtain ⟨ad, len, cap, rfl⟩ := okWide_slice ht ho
  obtain ⟨fuel, hf⟩ := h
  rcases open_strings ht he hc hf with ⟨hcs, _⟩ | ⟨a, l, c, ss, hcs, _, hl, hm, hz, _, hcell, hsz⟩
  · simp [Value.cells] at hcs
    obtain ⟨rfl, rfl, rfl⟩ := hcs
    exact ⟨[], ⟨rfl, Nat.zero_le _, none, 0, rfl, Nat.le_refl _, Nat.zero_le _, fun _ => ⟨rfl, rfl⟩, .inl rfl⟩, by simp⟩
  · simp [Value.cells] at hcs
    obtain ⟨rfl, rfl, rfl⟩ := hcs
    simp only [if_true] at hz
    have hlen : (ss.take len).length = len := by rw [List.length_take]; omega
    refine ⟨ss.take len, ?_, fun s hs => hsz s (List.mem_of_mem_take hs)⟩
    rw [hlen]
    refine ⟨by rw [List.length_map, hlen, Nat.mul_one], Nat.le_trans hl hm, _, _, rfl, hl, hm, (fun e => by cases e), ?_⟩
    by_cases h0 : len = 0
    · exact .inl h0
    · right
      obtain ⟨b, off, spot⟩ := a
      have hc0 := hcell 0 (by omega)
      have hspot : spot = none := by simpa [Addr.add] using World.cell?_spot hc0
      subst hspot
      have hadd : ∀ j, (⟨b, off, none⟩ : Addr).add j = ⟨b, off + j, none⟩ := fun j => by unfold Addr.add; split <;> simp_all
      refine ⟨b, off, rfl, ?_, fun j u hu => ?_⟩
      · rw [hadd] at hc0; exact World.block_lt_of_cell? W _ hc0
      · rw [List.getElem?_map, List.getElem?_take] at hu
        split at hu
        · rename_i hj
          have hj' : j < ss.length := by omega
          have := hcell j hj'
          rw [hadd] at this
          rw [this]
          simp [hj'] at hu ⊢
          exact hu
        · simp at hu

theorem rd_ints {H : Type} {enc : TypeId × Value → H} {P : Program} {W : World} {base : Nat} {t e : TypeId} {k : IntKind} {v : Value} {d : DataW H} {ps : List MemPlace} (ht : P.underlying t = some (.slice e)) (he : P.underlying e = some (.int k)) (hc : P.cellsOf e = 1)
    (ho : Value.okWide P W .any base t v) (h : DataW.Trod enc P W 0 (fun _ => true) true t v d ps) :
    ∃ xs : List Int, Rd W v 1 xs.length (xs.map (.int k)) (fun b => b < W.heap.size) ∧ ∀ n ∈ xs, (Lit.int k n).wf = true := by
  obtain ⟨ad, len, cap, rfl⟩ := okWide_slice ht ho
  obtain ⟨fuel, hf⟩ := h
  rcases open_ints ht he hc hf with ⟨hcs, _⟩ | ⟨a, l, c, ss, hcs, _, hl, hm, hz, _, hcell, hsz⟩
  · simp [Value.cells] at hcs
    obtain ⟨rfl, rfl, rfl⟩ := hcs
    exact ⟨[], ⟨rfl, Nat.zero_le _, none, 0, rfl, Nat.le_refl _, Nat.zero_le _, fun _ => ⟨rfl, rfl⟩, .inl rfl⟩, by simp⟩
  · simp [Value.cells] at hcs
    obtain ⟨rfl, rfl, rfl⟩ := hcs
    simp only [if_true] at hz
    have hlen : (ss.take len).length = len := by rw [List.length_take]; omega
    refine ⟨ss.take len, ?_, fun s hs => hsz s (List.mem_of_mem_take hs)⟩
    rw [hlen]
    refine ⟨by rw [List.length_map, hlen, Nat.mul_one], Nat.le_trans hl hm, _, _, rfl, hl, hm, (fun e => by cases e), ?_⟩
    by_cases h0 : len = 0
    · exact .inl h0
    · right
      obtain ⟨b, off, spot⟩ := a
      have hc0 := hcell 0 (by omega)
      have hspot : spot = none := by simpa [Addr.add] using World.cell?_spot hc0
      subst hspot
      have hadd : ∀ j, (⟨b, off, none⟩ : Addr).add j = ⟨b, off + j, none⟩ := fun j => by unfold Addr.add; split <;> simp_all
      refine ⟨b, off, rfl, ?_, fun j u hu => ?_⟩
      · rw [hadd] at hc0; exact World.block_lt_of_cell? W _ hc0
      · rw [List.getElem?_map, List.getElem?_take] at hu
        split at hu
        · rename_i hj
          have hj' : j < ss.length := by omega
          have := hcell j hj'
          rw [hadd] at this
          rw [this]
          simp [hj'] at hu ⊢
          exact hu
        · simp at hu
end Go.Proofs.Ytlbppfdkcaoijaa
