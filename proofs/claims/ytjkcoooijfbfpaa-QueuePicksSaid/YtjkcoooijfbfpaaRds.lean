/- From the readings of the arguments to slices that are read. No program in sight. -/
import Derived.Test.YtjkcoooijfbfpaaLib
import Derived.ProofKit
import Derived.OpenShut
import Derived.Deep.Strs
namespace Go.Proofs.Ytjkcoooijfbfpaa
open Go.RowKit Go.ChangeShapes Go.WideShapes

theorem rd_strings {H : Type} {enc : TypeId × Value → H} {P : Program} {W : World} {base : Nat} {t e : TypeId} {v : Value} {d : DataW H} {ps : List MemPlace} (ht : P.underlying t = some (.slice e)) (he : P.underlying e = some .string) (hc : P.cellsOf e = 1)
    (ho : Value.okWide P W .any base t v) (h : DataW.Trod enc P W 0 (fun _ => true) true t v d ps) :
    ∃ xs : List ByteArray, Rd W v 1 xs.length (xs.map .string) (fun b => b < W.heap.size) ∧ ∀ s ∈ xs, s.size ≤ maxLen := by
  obtain ⟨ad, len, cap, rfl⟩ := okWide_slice ht ho
  obtain ⟨fuel, hf⟩ := h
  rcases open_strings ht he hc hf with ⟨hcs, _⟩ | ⟨a, l, c, ss, hcs, _, hl, hm, hz, _, hcell, hsz⟩
  · simp [Value.cells] at hcs
    obtain ⟨rfl, rfl, rfl⟩ := hcs
    exact ⟨[], ⟨rfl, Nat.zero_le _, none, 0, rfl, Nat.le_refl _, Nat.zero_le _, fun _ => ⟨rfl, rfl⟩, .inl rfl⟩, by simp⟩
  · simp [Value.cells] at hcs
    obtain ⟨rfl, rfl, rfl⟩ := hcs
    simp only [if_true] at hz
    have hlen : (ss.take len).length = len := by rw [List.length_take]; omega
    refine ⟨ss.take len, ?_, fun s hs => hsz s (List.mem_of_mem_take hs)⟩
    rw [hlen]
    refine ⟨by rw [List.length_map, hlen, Nat.mul_one], Nat.le_trans hl hm, _, _, rfl, hl, hm, (fun e => by cases e), ?_⟩
    by_cases h0 : len = 0
    · exact .inl h0
    · right
      obtain ⟨b, off, spot⟩ := a
      have hc0 := hcell 0 (by omega)
      have hspot : spot = none := by simpa [Addr.add] using World.cell?_spot hc0
      subst hspot
      have hadd : ∀ j, (⟨b, off, none⟩ : Addr).add j = ⟨b, off + j, none⟩ := fun j => by unfold Addr.add; split <;> simp_all
      refine ⟨b, off, rfl, ?_, fun j u hu => ?_⟩
      · rw [hadd] at hc0; exact World.block_lt_of_cell? W _ hc0
      · rw [List.getElem?_map, List.getElem?_take] at hu
        split at hu
        · rename_i hj
          have hj' : j < ss.length := by omega
          have := hcell j hj'
          rw [hadd] at this
          rw [this]
          simp [hj'] at hu ⊢
          exact hu
        · simp at hu

theorem rd_ints {H : Type} {enc : TypeId × Value → H} {P : Program} {W : World} {base : Nat} {t e : TypeId} {k : IntKind} {v : Value} {d : DataW H} {ps : List MemPlace} (ht : P.underlying t = some (.slice e)) (he : P.underlying e = some (.int k)) (hc : P.cellsOf e = 1)
    (ho : Value.okWide P W .any base t v) (h : DataW.Trod enc P W 0 (fun _ => true) true t v d ps) :
    ∃ xs : List Int, Rd W v 1 xs.length (xs.map (.int k)) (fun b => b < W.heap.size) ∧ ∀ n ∈ xs, (Lit.int k n).wf = true := by
  obtain ⟨ad, len, cap, rfl⟩ := okWide_slice ht ho
  obtain ⟨fuel, hf⟩ := h
  rcases open_ints ht he hc hf with ⟨hcs, _⟩ | ⟨a, l, c, ss, hcs, _, hl, hm, hz, _, hcell, hsz⟩
  · simp [Value.cells] at hcs
    obtain ⟨rfl, rfl, rfl⟩ := hcs
    exact ⟨[], ⟨rfl, Nat.zero_le _, none, 0, rfl, Nat.le_refl _, Nat.zero_le _, fun _ => ⟨rfl, rfl⟩, .inl rfl⟩, by simp⟩
  · simp [Value.cells] at hcs
    obtain ⟨rfl, rfl, rfl⟩ := hcs
    simp only [if_true] at hz
    have hlen : (ss.take len).length = len := by rw [List.length_take]; omega
    refine ⟨ss.take len, ?_, fun s hs => hsz s (List.mem_of_mem_take hs)⟩
    rw [hlen]
    refine ⟨by rw [List.length_map, hlen, Nat.mul_one], Nat.le_trans hl hm, _, _, rfl, hl, hm, (fun e => by cases e), ?_⟩
    by_cases h0 : len = 0
    · exact .inl h0
    · right
      obtain ⟨b, off, spot⟩ := a
      have hc0 := hcell 0 (by omega)
      have hspot : spot = none := by simpa [Addr.add] using World.cell?_spot hc0
      subst hspot
      have hadd : ∀ j, (⟨b, off, none⟩ : Addr).add j = ⟨b, off + j, none⟩ := fun j => by unfold Addr.add; split <;> simp_all
      refine ⟨b, off, rfl, ?_, fun j u hu => ?_⟩
      · rw [hadd] at hc0; exact World.block_lt_of_cell? W _ hc0
      · rw [List.getElem?_map, List.getElem?_take] at hu
        split at hu
        · rename_i hj
          have hj' : j < ss.length := by omega
          have := hcell j hj'
          rw [hadd] at this
          rw [this]
          simp [hj'] at hu ⊢
          exact hu
        · simp at hu

theorem mapM_some {α β : Type} {f : α → Option β} : ∀ {l : List α} {r : List β}, l.mapM f = some r → r.length = l.length ∧ ∀ (j : Nat) x, l[j]? = some x → ∃ y, r[j]? = some y ∧ f x = some y
  | [], r, h => by simp at h; subst h; simp
  | x :: l, r, h => by
    simp only [List.mapM_cons, Option.bind_eq_bind, Option.bind_eq_some_iff, Option.pure_def, Option.some.injEq] at h
    obtain ⟨y, hy, r', hr', rfl⟩ := h
    obtain ⟨h1, h2⟩ := mapM_some hr'
    refine ⟨by simp [h1], ?_⟩
    rintro (_ | j) z hz
    · simp at hz; subst hz; exact ⟨y, by simp, hy⟩
    · simpa using h2 j z (by simpa using hz)

theorem cells_row {w : World} {base : Nat} {a : Addr} {n : Nat} {cs : List Value} (h : w.cells? base a n = some cs) : cs.length = n ∧ ∀ (j : Nat) u, cs[j]? = some u → w.cell? (a.add j) = some u := by
  unfold World.cells? at h
  split at h
  · obtain ⟨h1, h2⟩ := mapM_some h
    simp only [List.length_range] at h1
    refine ⟨h1, fun j u hu => ?_⟩
    have hj : j < n := by rw [← h1]; exact (List.getElem?_eq_some_iff.1 hu).1
    obtain ⟨y, hy, hc⟩ := h2 j j (by simp [hj])
    rw [hu] at hy
    cases hy
    exact hc
  · cases h

theorem flatten_get {β : Type} {s : Nat} : ∀ (rows : List (List β)) (_ : ∀ r ∈ rows, r.length = s) (k j : Nat), j < s → rows.flatten[k * s + j]? = (rows[k]?).bind (·[j]?)
  | [], _, k, j, _ => by simp
  | r :: rows, h, 0, j, hj => by
    have hr := h r (by simp)
    simp only [List.flatten_cons, Nat.zero_mul, Nat.zero_add, List.getElem?_cons_zero, Option.bind_some]
    rw [List.getElem?_append_left (by omega)]
  | r :: rows, h, k + 1, j, hj => by
    have hr := h r (by simp)
    simp only [List.flatten_cons, List.getElem?_cons_succ]
    rw [List.getElem?_append_right (by rw [hr, Nat.add_mul]; omega), hr]
    have : (k + 1) * s + j - s = k * s + j := by rw [Nat.add_mul]; omega
    rw [this]
    exact flatten_get rows (fun r hr => h r (by simp [hr])) k j hj
theorem flatten_len {β : Type} {s : Nat} : ∀ (rows : List (List β)) (_ : ∀ r ∈ rows, r.length = s), rows.flatten.length = rows.length * s
  | [], _ => by simp
  | r :: rows, h => by
    have hr := h r (by simp)
    rw [List.flatten_cons, List.length_append, flatten_len rows (fun r hr => h r (by simp [hr])), hr, List.length_cons, Nat.add_mul]; omega
theorem flat_get {α β : Type} {s : Nat} (f : α → List β) (hf : ∀ a, (f a).length = s) (l : List α) (k : Nat) (hk : k < l.length) (j : Nat) (hj : j < s) : (l.flatMap f)[k * s + j]? = (f l[k])[j]? := by
  rw [List.flatMap_def, flatten_get (s := s) _ (by intro r hr; obtain ⟨a, _, rfl⟩ := List.mem_map.1 hr; exact hf a) k j hj]
  simp [hk]
theorem flat_len {α β : Type} {s : Nat} (f : α → List β) (hf : ∀ a, (f a).length = s) (l : List α) : (l.flatMap f).length = l.length * s := by
  rw [List.flatMap_def, flatten_len (s := s) _ (by intro r hr; obtain ⟨a, _, rfl⟩ := List.mem_map.1 hr; exact hf a), List.length_map]
theorem exists_map {α β : Type} {f : α → β} : ∀ (rows : List β), (∀ r ∈ rows, ∃ x, r = f x) → ∃ l : List α, rows = l.map f
  | [], _ => ⟨[], rfl⟩
  | r :: rows, h => by
    obtain ⟨x, hx⟩ := h r (by simp)
    obtain ⟨l, hl⟩ := exists_map rows (fun r hr => h r (by simp [hr]))
    exact ⟨x :: l, by rw [hx, hl]; rfl⟩

/-- A slice of whatever elements: its rows. -/
theorem rd_rows {H : Type} {enc : TypeId × Value → H} {P : Program} {W : World} {base : Nat} {t e : TypeId} {size : Nat} {v : Value} {d : DataW H} {ps : List MemPlace} (ht : P.underlying t = some (.slice e)) (hc : P.cellsOf e = size) (hsz : 0 < size)
    (ho : Value.okWide P W .any base t v) (h : DataW.Trod enc P W 0 (fun _ => true) true t v d ps) :
    ∃ rows : List (List Value), Rd W v size rows.length rows.flatten (fun b => b < W.heap.size) ∧ ∀ r ∈ rows, r.length = size ∧ ∃ n y, DataW.trod enc P W 0 (fun _ => true) true n e r = some y := by
  obtain ⟨ad, len, cap, rfl⟩ := okWide_slice ht ho
  obtain ⟨fuel, hf⟩ := h
  rcases Go.Deep.open_slice ht hf with ⟨hcs, _⟩ | ⟨a, l, c, m, n, D, Pl, hcs, _, hl, hm, hmm, _, hel⟩
  · simp [Value.cells] at hcs
    obtain ⟨rfl, rfl, rfl⟩ := hcs
    exact ⟨[], ⟨by simp, Nat.zero_le _, none, 0, rfl, Nat.le_refl _, Nat.zero_le _, fun _ => ⟨rfl, rfl⟩, .inl rfl⟩, by simp⟩
  · simp [Value.cells] at hcs
    obtain ⟨rfl, rfl, rfl⟩ := hcs
    simp only [if_true] at hmm
    subst hmm
    rw [hc] at hel
    have hrow : ∀ i, ∃ r : List Value, i < len → (W.cells? 0 (a.add (i * size)) size = some r ∧ DataW.trod enc P W 0 (fun _ => true) true n e r = some (D i, Pl i)) := by
      intro i
      by_cases hi : i < len
      · obtain ⟨r, h1, h2⟩ := hel i (by omega)
        exact ⟨r, fun _ => ⟨h1, h2⟩⟩
      · exact ⟨[], fun e => absurd e hi⟩
    obtain ⟨R, hR⟩ := Classical.axiomOfChoice hrow
    have hrows : ∀ r ∈ (List.range len).map R, r.length = size := by
      intro r hr
      obtain ⟨i, hi, rfl⟩ := List.mem_map.1 hr
      exact (cells_row (hR i (List.mem_range.1 hi)).1).1
    refine ⟨(List.range len).map R, ?_, fun r hr => ⟨hrows r hr, ?_⟩⟩
    · rw [List.length_map, List.length_range]
      refine ⟨by rw [flatten_len _ hrows, List.length_map, List.length_range], Nat.le_trans hl hm, _, _, rfl, hl, hm, (fun e => by cases e), ?_⟩
      by_cases h0 : len = 0
      · exact .inl h0
      · right
        have hc0 := cells_row (hR 0 (by omega)).1
        obtain ⟨u0, hu0⟩ : ∃ u, (R 0)[0]? = some u := ⟨(R 0)[0]'(by rw [hc0.1]; exact hsz), by simp⟩
        have hcell0 := hc0.2 0 u0 hu0
        obtain ⟨b, off, spot⟩ := a
        have hspot : spot = none := by simpa [Addr.add] using World.cell?_spot hcell0
        subst hspot
        simp only [addr_add] at hcell0 hR
        refine ⟨b, off, rfl, World.block_lt_of_cell? W _ hcell0, fun j u hu => ?_⟩
        have hlen : j < len * size := by
          have := (List.getElem?_eq_some_iff.1 hu).1
          rw [flatten_len _ hrows, List.length_map, List.length_range] at this
          exact this
        have hq : j / size < len := (Nat.div_lt_iff_lt_mul hsz).2 hlen
        have hr : j % size < size := Nat.mod_lt _ hsz
        have e1 : j = (j / size) * size + j % size := by rw [Nat.mul_comm]; exact (Nat.div_add_mod j size).symm
        rw [e1, flatten_get _ hrows _ _ hr] at hu
        simp only [List.getElem?_map, List.getElem?_range hq, Option.map_some, Option.bind_some] at hu
        have := (cells_row (hR (j / size) hq).1).2 _ u hu
        rw [addr_add, Nat.add_assoc] at this
        rw [e1]
        exact this
    · obtain ⟨i, hi, rfl⟩ := List.mem_map.1 hr
      exact ⟨n, _, (hR i (List.mem_range.1 hi)).2⟩
end Go.Proofs.Ytjkcoooijfbfpaa
