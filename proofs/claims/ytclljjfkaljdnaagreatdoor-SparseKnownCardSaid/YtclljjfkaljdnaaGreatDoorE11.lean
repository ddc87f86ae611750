/- The evaluator's operations that make memory. No program in sight. -/
import Derived.Test.YtclljjfkaljdnaaGreatDoorE10
namespace Go.Proofs.YtclljjfkaljdnaaGreatDoor
open Go.RowKit

/-- An operation that makes one object, and nothing else. -/
def Al (P : Program) (E : Env) (s : Tr AV) (o : Oper) (H : AH) (r : ARes) : Prop :=
  ∃ av ob H', r = .val av H' ∧ Added H ob H' ∧ ob.isRo = false ∧ ∀ ρ a w, Ctx E ρ s a o.op → ρ H.next = none → ∃ x N v, (execOp a.eval o).run P w = .ok (.value v) (w.alloc x) ∧
    OR E (ρ.add H.next (w.heap.size, 0, N)) ob 0 N (some x) ∧ Rl (ρ.add H.next (w.heap.size, 0, N)) av v

/-- A trie and a row of cells. -/
def TR (ρ : Ren) (n : Nat) (t : Tr AV) (cs : Array Value) : Prop := cs.size = n ∧ ∀ (i : Nat) av, i < n → t.get i = some av → ∃ v, cs[i]? = some v ∧ Rl ρ av v

section
variable {P : Program} {E : Env} {s : Tr AV} {o : Oper} {H : AH} {r : ARes} {ρ : Ren}

theorem TR.mono {ρ' : Ren} {n : Nat} {t : Tr AV} {cs : Array Value} (h : TR ρ n t cs) (hx : Ext ρ ρ') : TR ρ' n t cs :=
  ⟨h.1, fun i av hi ha => let ⟨v, a, b⟩ := h.2 i av hi ha; ⟨v, a, b.mono hx⟩⟩
theorem TR.or {n : Nat} {t : Tr AV} {cs : Array Value} (h : TR ρ n t cs) (e : TypeId) : OR E ρ (.cells n t false) 0 n (some (.cells cs e)) :=
  ⟨cs, e, (0, 0), rfl, h.1, by omega, fun _ => rfl, fun i av hi ha => by rw [Nat.zero_add]; exact h.2 i av hi ha, fun _ => rfl⟩
theorem tr_of_list {l : List AV} {t : Tr AV} {cs : Array Value} (hl : RlL ρ l cs.toList) (ht : ∀ j, t.get j = if 0 ≤ j ∧ j < 0 + l.length then l[j - 0]? else (Tr.e : Tr AV).get j) : TR ρ l.length t cs := by
  have hlen := hl.length
  refine ⟨by simpa using hlen.symm, fun i av hi ha => ?_⟩
  rw [ht, if_pos (by omega)] at ha
  obtain ⟨v, h1, h2⟩ := hl.get ha
  exact ⟨v, by simpa using h1, h2⟩

theorem al_alloc (EO : EnvOK P E) {t : TypeId} (ho : o.op = .alloc t) (h : opK E s (.alloc t) H = .ok r) : Al P E s o H r := by
  unfold opK at h
  dsimp only at h
  replace h := tiK_ok h; obtain ⟨i, hi, h⟩ := h
  replace h := writeK_ok h; obtain ⟨t', ht, h⟩ := h
  replace h := newK_ok h; obtain ⟨H', hA, h⟩ := h
  have T := EO.tt _ _ hi
  refine ⟨_, _, H', val_ok h, hA, rfl, fun ρ a w c hn => ?_⟩
  obtain ⟨zv, hz, hzz, _⟩ := T.run_zero w
  have hl : RlL ρ i.zero zv.cells.toList := by rw [hzz]; exact rl_lits _
  have htr := tr_of_list hl ht
  rw [T.len] at htr
  refine ⟨.cells zv.cells t, i.size, .pointer (some ⟨w.heap.size, 0, none⟩), ?_, (htr.mono (Ren.add_ext hn)).or t, ?_⟩
  · simp [execOp, ho, Instr.alloc, hz, newVar, newRow, Sem.run_bind]
  · exact .ptr (s := 0) (Ren.add_self _ _ _)

theorem al_box {t : TypeId} {x : Operand} (ho : o.op = .box t x) (h : opK E s (.box t x) H = .ok r) : Al P E s o H r := by
  unfold opK at h
  dsimp only at h
  replace h := evK_ok h; obtain ⟨v, hv, h⟩ := h
  rw [lenK_eq] at h
  replace h := boolC_er h; obtain ⟨hall, h⟩ := h
  replace h := writeK_ok h; obtain ⟨t', ht, h⟩ := h
  replace h := newK_ok h; obtain ⟨H', hA, h⟩ := h
  refine ⟨_, _, H', val_ok h, hA, rfl, fun ρ a w c hn => ?_⟩
  have hr := c.ev hv (by simp [ho, Op.operands])
  have hl := (cellsOf_rel hr hall).1
  have htr := tr_of_list hl ht
  refine ⟨.cells (a.eval x).cells t, (cellsOf v).length, .pointer (some ⟨w.heap.size, 0, none⟩), ?_, (htr.mono (Ren.add_ext hn)).or t, ?_⟩
  · simp [execOp, ho, Instr.box, newVar, newRow]
  · exact .ptr (s := 0) (Ren.add_self _ _ _)

theorem al_makeMap (EO : EnvOK P E) {t : TypeId} {x : Option Operand} (ho : o.op = .makeMap t x) (h : opK E s (.makeMap t x) H = .ok r) : Al P E s o H r := by
  unfold opK at h
  dsimp only at h
  replace h := tiK_ok h; obtain ⟨i, hi, h⟩ := h
  have hu := (EO.tt _ _ hi).und
  split at h
  · rename_i kt et hd
    rw [hd] at hu
    replace h := bd_ok h; obtain ⟨n, hn, h⟩ := h
    replace h := getK_ok h; obtain ⟨ks, hks, h⟩ := h
    replace h := newK_ok h; obtain ⟨H', hA, h⟩ := h
    refine ⟨_, _, H', val_ok h, hA, rfl, fun ρ a w c hnn => ?_⟩
    refine ⟨.map #[] 0, 0, .map (some w.heap.size), ?_, ⟨#[], rfl, ⟨ks, hks, by simp⟩, .nil⟩, .map (Ren.add_self _ _ _)⟩
    rcases hn with ⟨rfl, _⟩ | ⟨y, j, rfl, hy⟩
    · simp [execOp, ho, Instr.makeMap]
    · have e := natV (c.ev hy (by simp [ho, Op.operands]))
      simp [execOp, ho, Instr.makeMap, Sem.run_bind, run_underlying hu, e, asInt, asIntOf]
  · cases h

/-- The zero of an element, over and over. -/
theorem tr_rep {e : TypeId} {j : TI} (T : TIOK P e j) {n : Nat} {t : Tr AV} (ht : ∀ k, t.get k = if 0 ≤ k ∧ k < 0 + n * j.size then j.zero[(k - 0) % j.size]? else (Tr.e : Tr AV).get k) (ρ : Ren) (w : World) :
    ∃ (zv : Value) (zc : Array Value), (zeroValue e).run P w = .ok zv w ∧ ((n * j.size = 0 ∧ zc = #[]) ∨ (n * j.size ≠ 0 ∧ zc = zv.cells)) ∧ TR ρ (n * j.size) t ((Array.range (n * j.size)).map (fun x => zc[x % zc.size]!)) := by
  obtain ⟨zv, hz, hzz, _⟩ := T.run_zero w
  have hlen : zv.cells.size = j.size := by have := T.len; rw [hzz] at this; simpa using this
  by_cases h0 : n * j.size = 0
  · exact ⟨zv, #[], hz, .inl ⟨h0, rfl⟩, by simp, fun i av hi => by omega⟩
  · refine ⟨zv, zv.cells, hz, .inr ⟨h0, rfl⟩, by simp, fun i av hi ha => ?_⟩
    rw [ht, if_pos (by omega), hzz, List.getElem?_map] at ha
    have hlt : i % j.size < j.size := Nat.mod_lt _ (by rcases Nat.eq_zero_or_pos j.size with h | h; (rw [h] at h0; simp at h0); exact h)
    simp only [Nat.sub_zero, Array.getElem?_toList] at ha
    have hlt' : i % j.size < zv.cells.size := by omega
    rw [Array.getElem?_eq_getElem hlt'] at ha
    simp only [Option.map_some, Option.some.injEq] at ha
    subst ha
    refine ⟨zv.cells[i % j.size], ?_, .lit _⟩
    simp only [Array.getElem?_map]
    rw [Array.getElem?_range, if_pos hi]
    simp only [Option.map_some, hlen]
    rw [getElem!_pos zv.cells _ hlt']

theorem wrap64_nat {n : Nat} (h : n ≤ 9223372036854775807) : IntKind.i64.wrap (n : Int) = n := IntWalk.i64_in _ (by omega)

theorem al_makeSlice (EO : EnvOK P E) {t : TypeId} {x y : Operand} (ho : o.op = .makeSlice t x y) (h : opK E s (.makeSlice t x y) H = .ok r) : Al P E s o H r := by
  unfold opK at h
  dsimp only at h
  replace h := evK_ok h; obtain ⟨lv, hlv, h⟩ := h
  replace h := natK_ok h; obtain ⟨j1, n, rfl, h⟩ := h
  replace h := evK_ok h; obtain ⟨cv, hcv, h⟩ := h
  replace h := natK_ok h; obtain ⟨j2, c, rfl, h⟩ := h
  unfold makeSliceK at h
  replace h := elemOf_ok h; obtain ⟨i, e, j, hi, hd, hj, h⟩ := h
  replace h := boolC_er h; obtain ⟨h1, h⟩ := h
  replace h := boolC_er h; obtain ⟨h2, h⟩ := h
  replace h := boolC_er h; obtain ⟨h3, h⟩ := h
  have T := EO.tt _ _ hj
  have hu : P.underlying t = some (.slice e) := by have := (EO.tt _ _ hi).und; rwa [hd] at this
  replace h := repK_ok T.len h; obtain ⟨t', ht, h⟩ := h
  replace h := newK_ok h; obtain ⟨H', hA, h⟩ := h
  have h1' : c ≤ 9223372036854775807 := by simpa [Nat.ble_eq] using h1
  have h2' : j.bytes * c ≤ 140737488355328 := by simpa [Nat.ble_eq, mul_eq] using h2
  have h3' : n ≤ c := by simpa [Nat.ble_eq] using h3
  refine ⟨_, _, H', val_ok h, hA, rfl, fun ρ a w ct hn => ?_⟩
  have e1 := natV (ct.ev hlv (by simp [ho, Op.operands]))
  have e2 := natV (ct.ev hcv (by simp [ho, Op.operands]))
  obtain ⟨zv, zc, hz, hzc, htr⟩ := tr_rep (n := c) T ht ρ w
  obtain ⟨ti, hti, htis, htib⟩ := T.run_info w
  refine ⟨.cells ((Array.range (c * j.size)).map (zc[· % zc.size]!)) e, c * j.size, .slice (some ⟨w.heap.size, 0, none⟩) n c, ?_, (htr.mono (Ren.add_ext hn)).or e, ?_⟩
  · have hw1 := wrap64_nat (n := n) (by omega)
    have hw2 := wrap64_nat h1'
    have hbig : ¬ ((281474976710656 : Int) < (ti.bytes : Int) * (c : Int)) := by
      rw [htib]
      have : ((j.bytes * c : Nat) : Int) ≤ 140737488355328 := Int.ofNat_le.2 h2'
      rw [Int.natCast_mul] at this
      omega
    have hn0 : ¬ ((n : Int) < 0) := by omega
    have hc0 : ¬ ((c : Int) < 0) := by omega
    have hnc : ¬ ((c : Int) < (n : Int)) := by omega
    unfold execOp
    simp only [ho, e1, e2, Instr.makeSlice, Sem.run_bind, run_underlying hu, Result.andThen_ok, asInt, asIntOf, Sem.run_pure, hti, hw1, hw2]
    have hcond : ((decide ((c : Int) < 0) || decide ((ti.bytes : Int) * (c : Int) > 2 ^ 48)) || decide ((n : Int) < 0) || decide ((n : Int) > (c : Int))) = false := by
      simp only [Bool.or_eq_false_iff, decide_eq_false_iff_not]
      have e48 : (2 : Int) ^ 48 = 281474976710656 := rfl
      exact ⟨⟨⟨hc0, by rw [e48]; exact hbig⟩, hn0⟩, hnc⟩
    simp only [hcond, Bool.false_eq_true, if_false, Sem.run_bind, run_askRoom, Result.andThen_ok, T.run_size w, Int.toNat_natCast]
    rcases hzc with ⟨h0, rfl⟩ | ⟨h0, rfl⟩
    · simp only [h0, if_true, Sem.run_bind, Sem.run_pure, Result.andThen_ok, newRow, run_newObj_alloc]
    · simp only [h0, if_false, Sem.run_bind, Sem.run_pure, Result.andThen_ok, newRow, run_newObj_alloc, hz]
  · exact .sl (s := 0) (Ren.add_self _ _ _) (fun _ => rfl) (Nat.le_refl _) h3' (by simp) (by unfold maxLen; omega)

/-! ### literals of slices -/
theorem fillT_rel {es n : Nat} : ∀ (parts : List (Nat × Operand)) (t : Tr AV) (k : Tr AV → R ARes) (q : ARes), fillT E s es n parts t k = .ok q →
      ∃ t', k t' = .ok q ∧ ∀ (ρ : Ren) (a : Act), (∀ p ∈ parts, ∀ v, Ev E s p.2 v → Rl ρ v (a.eval p.2)) → ∀ cs : Array Value, TR ρ (n * es) t cs →
        ∃ out, Instr.fill (fun i => some (i * es, es)) cs (parts.map fun p => (p.1, a.eval p.2)) = some out ∧ TR ρ (n * es) t' out := by
  intro parts
  induction parts with
  | nil => intro t k q h; exact ⟨t, h, fun ρ a _ cs hc => ⟨cs, rfl, hc⟩⟩
  | cons p parts ih =>
    intro t k q h
    unfold fillT at h
    rw [listR_cons] at h
    obtain ⟨i, x⟩ := p
    dsimp only at h
    replace h := evK_ok h; obtain ⟨v, hv, h⟩ := h
    rw [lenK_eq] at h
    replace h := boolC_er h; obtain ⟨hall, h⟩ := h
    replace h := boolC_er h; obtain ⟨hsz, h⟩ := h
    replace h := boolC_er h; obtain ⟨hlt, h⟩ := h
    replace h := writeK_ok h; obtain ⟨t1, ht1, h⟩ := h
    have hsz' : (cellsOf v).length = es := by simpa using hsz
    have hlt' : i < n := by rw [Nat.blt_eq] at hlt; exact hlt
    obtain ⟨t', hk, hrel⟩ := ih _ _ _ h
    refine ⟨t', hk, fun ρ a hs cs hc => ?_⟩
    have hvr : Rl ρ v (a.eval x) := hs (i, x) (by simp) v hv
    obtain ⟨hcr, _⟩ := cellsOf_rel hvr hall
    have hvs := cellsOf_len hvr hall
    have hmul : i * es + es ≤ n * es := by rw [← Nat.succ_mul]; exact Nat.mul_le_mul_right _ hlt'
    have hfit : i * es + (a.eval x).cells.size ≤ cs.size := by rw [hc.1, ← hvs, hsz']; exact hmul
    have hfo := fill_one (i * es) (a.eval x).cells cs hfit
    have hc2 : TR ρ (n * es) t1 ((a.eval x).cells.zipIdx.foldl (fun (cs : Array Value) (p : Value × Nat) => cs.setIfInBounds (i * es + p.2) p.1) cs) := by
      obtain ⟨hs1, hs2⟩ := foldl_set_get (i * es) (a.eval x).cells.toList 0 cs (by simpa using hfit)
      have hfold : (a.eval x).cells.zipIdx.foldl (fun (cs : Array Value) (p : Value × Nat) => cs.setIfInBounds (i * es + p.2) p.1) cs = ((a.eval x).cells.toList.zipIdx 0).foldl (fun (cs : Array Value) (p : Value × Nat) => cs.setIfInBounds (i * es + p.2) p.1) cs := by
        rw [← Array.foldl_toList, Array.toList_zipIdx]
      rw [hfold]
      refine ⟨by rw [hs1]; exact hc.1, fun m av hm ha => ?_⟩
      rw [ht1, mul_eq] at ha
      have h3 := hs2 m
      simp only [Nat.add_zero, Array.length_toList] at h3
      rw [h3]
      by_cases e1 : i * es ≤ m ∧ m < i * es + (cellsOf v).length
      · rw [if_pos e1] at ha
        rw [if_pos (by rw [← hvs]; exact e1)]
        exact hcr.get ha
      · rw [if_neg e1] at ha
        rw [if_neg (by rw [← hvs]; exact e1)]
        exact hc.2 m av hm ha
    obtain ⟨out, h1, h2⟩ := hrel ρ a (fun p hp => hs p (by simp [hp])) _ hc2
    refine ⟨out, ?_, h2⟩
    simp only [List.map_cons, Instr.fill]
    rw [if_neg (by simp; omega)]
    exact h1

theorem al_buildSlice (EO : EnvOK P E) {t : TypeId} {n : Nat} {parts : Array (Nat × Operand)} (ho : o.op = .buildSlice t n parts) (h : opK E s (.buildSlice t n parts) H = .ok r) : Al P E s o H r := by
  unfold opK at h
  dsimp only at h
  replace h := elemOf_ok h; obtain ⟨i, e, j, hi, hd, hj, h⟩ := h
  replace h := boolC_er h; obtain ⟨hn63, h⟩ := h
  replace h := boolC_er h; obtain ⟨h1, h⟩ := h
  have hn63' : n ≤ 9223372036854775807 := by simpa [Nat.ble_eq] using hn63
  have T := EO.tt _ _ hj
  have hu : P.underlying t = some (.slice e) := by have := (EO.tt _ _ hi).und; rwa [hd] at this
  replace h := repK_ok T.len h; obtain ⟨t0, ht, h⟩ := h
  replace h := fillT_rel _ _ _ _ h; obtain ⟨t', h, hrel⟩ := h
  replace h := newK_ok h; obtain ⟨H', hA, h⟩ := h
  have h1' : n * j.size ≤ 16777216 := by simpa [Nat.ble_eq, mul_eq] using h1
  refine ⟨_, _, H', val_ok h, hA, rfl, fun ρ a w ct hn => ?_⟩
  obtain ⟨zv, zc, hz, hzc, htr⟩ := tr_rep (n := n) T ht ρ w
  have hops : ∀ p ∈ parts.toList, p.2 ∈ o.op.operands.toList := by
    intro p hp
    simp only [ho, Op.operands, List.mem_map]
    exact ⟨p, hp, rfl⟩
  obtain ⟨out, hf, hout⟩ := hrel ρ a (fun p hp v hv => ct.ev hv (hops p hp)) _ htr
  refine ⟨.cells out e, n * j.size, .slice (some ⟨w.heap.size, 0, none⟩) n n, ?_, (hout.mono (Ren.add_ext hn)).or e, ?_⟩
  · have hf' : Instr.fill (fun i => some (i * j.size, j.size)) ((Array.range (n * j.size)).map (zc[· % zc.size]!)) (parts.map fun (i, x) => (i, a.eval x)).toList = some out := by
      rw [← hf]; congr 1; simp
    have hbig : ¬ (n * j.size > 2 ^ 24) := by omega
    unfold execOp
    simp only [ho, Instr.buildSlice, Sem.run_bind, run_underlying hu, Result.andThen_ok, T.run_size w, hbig, if_false]
    rcases hzc with ⟨h0, rfl⟩ | ⟨h0, rfl⟩
    · rw [h0] at hf'
      simp only [h0, if_true, Sem.run_bind, Sem.run_pure, Result.andThen_ok, newRow, run_newObj_alloc, hf']
    · simp only [h0, if_false, Sem.run_bind, Sem.run_pure, Result.andThen_ok, newRow, run_newObj_alloc, hz, hf']
  · exact .sl (s := 0) (Ren.add_self _ _ _) (fun _ => rfl) (Nat.le_refl _) (Nat.le_refl _) (by simp) (by unfold maxLen; omega)
end
end Go.Proofs.YtclljjfkaljdnaaGreatDoor
