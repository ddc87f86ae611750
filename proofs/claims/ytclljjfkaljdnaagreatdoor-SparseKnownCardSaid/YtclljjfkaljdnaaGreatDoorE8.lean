/- The evaluator's operations that look at no memory: literals of structs and arrays, operators. No program in sight. -/
import Derived.Test.YtclljjfkaljdnaaGreatDoorE7
import Derived.Laws.Tables
namespace Go.Proofs.YtclljjfkaljdnaaGreatDoor
open Go.RowKit

/-! ### literals -/
theorem splice_get {α : Type} (l m : List α) (off : Nat) (h : off + l.length ≤ m.length) (i : Nat) :
    (m.take off ++ (l ++ m.drop (off + l.length)))[i]? = if off ≤ i ∧ i < off + l.length then l[i - off]? else m[i]? := by
  have h0 : (m.take off).length = off := by rw [List.length_take]; omega
  by_cases h1 : i < off
  · rw [List.getElem?_append_left (by omega), List.getElem?_take, if_pos h1, if_neg (by omega)]
  · rw [List.getElem?_append_right (by omega), h0]
    by_cases h2 : i < off + l.length
    · rw [List.getElem?_append_left (by omega), if_pos ⟨by omega, h2⟩]
    · rw [List.getElem?_append_right (by omega), List.getElem?_drop, if_neg (by omega)]
      congr 1; omega
theorem foldl_set_get (off : Nat) : ∀ (l : List Value) (k : Nat) (cells : Array Value), off + k + l.length ≤ cells.size →
    ((l.zipIdx k).foldl (fun (cs : Array Value) (p : Value × Nat) => cs.setIfInBounds (off + p.2) p.1) cells).size = cells.size ∧
    ∀ i : Nat, ((l.zipIdx k).foldl (fun (cs : Array Value) (p : Value × Nat) => cs.setIfInBounds (off + p.2) p.1) cells)[i]? = if off + k ≤ i ∧ i < off + k + l.length then l[i - (off + k)]? else cells[i]?
  | [], k, cells, _ => ⟨rfl, fun i => by simp; omega⟩
  | v :: l, k, cells, h => by
    simp only [List.length_cons] at h
    obtain ⟨h1, h2⟩ := foldl_set_get off l (k + 1) (cells.setIfInBounds (off + k) v) (by simp; omega)
    refine ⟨by simpa [List.zipIdx_cons] using h1, fun i => ?_⟩
    have h3 := h2 i
    simp only [List.zipIdx_cons, List.foldl_cons]
    rw [h3]
    simp only [List.length_cons, Array.getElem?_setIfInBounds]
    by_cases e1 : i = off + k
    · subst e1
      rw [if_neg (by omega), if_pos rfl, if_pos (by omega), if_pos ⟨by omega, by omega⟩]
      simp
    · by_cases e2 : off + (k + 1) ≤ i ∧ i < off + (k + 1) + l.length
      · rw [if_pos e2, if_pos (by omega)]
        obtain ⟨d, rfl⟩ : ∃ d, i = off + (k + 1) + d := ⟨i - (off + (k + 1)), by omega⟩
        have e3 : off + (k + 1) + d - (off + (k + 1)) = d := by omega
        have e4 : off + (k + 1) + d - (off + k) = d + 1 := by omega
        rw [e3, e4]; simp
      · rw [if_neg e2, if_neg (by omega), if_neg (by omega)]
theorem fill_one (off : Nat) (v cells : Array Value) (h : off + v.size ≤ cells.size) :
    (v.zipIdx.foldl (fun (cs : Array Value) (p : Value × Nat) => cs.setIfInBounds (off + p.2) p.1) cells).toList = cells.toList.take off ++ (v.toList ++ cells.toList.drop (off + v.size)) := by
  rw [← Array.foldl_toList, Array.toList_zipIdx]
  obtain ⟨_, h2⟩ := foldl_set_get off v.toList 0 cells (by simpa using h)
  apply List.ext_getElem?
  intro i
  have h3 := h2 i
  simp only [Nat.add_zero] at h3
  rw [Array.getElem?_toList, h3]
  have := splice_get v.toList cells.toList off (by simpa using h) i
  simp only [Array.length_toList] at this ⊢
  rw [this]; simp

section
variable {P : Program} {E : Env} {s : Tr AV} {o : Oper} {H : AH} {r : ARes}

theorem layK_ok {β : Type} {off : Nat} {l cells : List AV} {k : List AV → R β} {q : β} (h : layK off l cells k = .ok q) :
    off + l.length ≤ cells.length ∧ k (cells.take off ++ (l ++ cells.drop (off + l.length))) = .ok q := by
  unfold layK at h
  replace h := takeK_ok h; obtain ⟨h1, h⟩ := h
  rw [lenK_eq] at h
  replace h := dropK_ok h; obtain ⟨h2, h⟩ := h
  rw [appK_eq, appK_eq] at h
  exact ⟨h2, h⟩

theorem fill_rel {β : Type} {place' : Nat → (Nat → Nat → R β) → R β} {place : Nat → Option (Nat × Nat)} (hp : ∀ i k q, place' i k = .ok q → ∃ off size, place i = some (off, size) ∧ k off size = .ok q) :
    ∀ (parts : List (Nat × Operand)) (cells : List AV) (k : List AV → R β) (q : β), fillK E s place' parts cells k = .ok q →
      ∃ out, k out = .ok q ∧ out.length = cells.length ∧ ∀ (ρ : Ren) (a : Act), (∀ p ∈ parts, ∀ v, Ev E s p.2 v → Rl ρ v (a.eval p.2)) → ∀ cells' : Array Value, RlL ρ cells cells'.toList →
        ∃ out', Instr.fill place cells' (parts.map fun p => (p.1, a.eval p.2)) = some out' ∧ RlL ρ out out'.toList := by
  intro parts
  induction parts with
  | nil => intro cells k q h; exact ⟨cells, h, rfl, fun ρ a _ cells' hc => ⟨cells', rfl, hc⟩⟩
  | cons p parts ih =>
    intro cells k q h
    unfold fillK at h
    rw [listR_cons] at h
    obtain ⟨i, x⟩ := p
    dsimp only at h
    replace h := evK_ok h; obtain ⟨v, hv, h⟩ := h
    obtain ⟨off, size, hpl, h'⟩ := hp _ _ _ h
    rw [lenK_eq] at h'
    replace h' := boolC_er h'; obtain ⟨hall, h'⟩ := h'
    replace h' := boolC_er h'; obtain ⟨hsz, h'⟩ := h'
    replace h' := layK_ok h'; obtain ⟨hle, h'⟩ := h'
    have hsz' : (cellsOf v).length = size := by simpa using hsz
    obtain ⟨out, hk, hlen, hrel⟩ := ih _ _ _ h'
    refine ⟨out, hk, ?_, fun ρ a hs cells' hc => ?_⟩
    · rw [hlen]; simp only [List.length_append, List.length_take, List.length_drop]; omega
    · have hvr : Rl ρ v (a.eval x) := hs (i, x) (by simp) v hv
      obtain ⟨hcr, _⟩ := cellsOf_rel hvr hall
      have hvs := cellsOf_len hvr hall
      have hcl := hc.length
      simp only [Array.length_toList] at hcl
      have hfo := fill_one off (a.eval x).cells cells' (by omega)
      have hc2 : RlL ρ (cells.take off ++ (cellsOf v ++ cells.drop (off + (cellsOf v).length))) ((a.eval x).cells.zipIdx.foldl (fun (cs : Array Value) (p : Value × Nat) => cs.setIfInBounds (off + p.2) p.1) cells').toList := by
        rw [hfo, hvs]
        exact (hc.take off).append (hcr.append (hc.drop _))
      obtain ⟨out', h1, h2⟩ := hrel ρ a (fun p hp => hs p (by simp [hp])) _ hc2
      refine ⟨out', ?_, h2⟩
      simp only [List.map_cons, Instr.fill, hpl]
      rw [if_neg (by simp; omega)]
      exact h1

theorem zero_rel {t : TypeId} {i : TI} (T : TIOK P t i) (ρ : Ren) : ∃ x zv, P.info? t = some x ∧ x.zero = some zv ∧ RlL ρ i.zero zv.cells.toList := by
  obtain ⟨x, zv, h1, _, _, h4, h5, _⟩ := T.info
  exact ⟨x, zv, h1, h4, by rw [h5]; exact rl_lits _⟩

theorem mapM_places : ∀ (fs : List Field), (∀ f ∈ fs, ∃ x, P.info? f.type = some x) → ∃ places : List (Nat × Nat), fs.mapM (fun f => (P.info? f.type).map fun i => (f.offset, i.size)) = some places ∧
    ∀ (i : Nat) f x, fs[i]? = some f → P.info? f.type = some x → places[i]? = some (f.offset, x.size)
  | [], _ => ⟨[], rfl, fun i f x h => by simp at h⟩
  | f :: fs, h => by
    obtain ⟨x, hx⟩ := h f (by simp)
    obtain ⟨pl, h1, h2⟩ := mapM_places fs (fun g hg => h g (by simp [hg]))
    refine ⟨(f.offset, x.size) :: pl, by simp [List.mapM_cons, hx, h1], fun i g y hg hy => ?_⟩
    cases i with
    | zero => simp at hg; subst hg; rw [hx] at hy; cases hy; rfl
    | succ i => simpa using h2 i g y (by simpa using hg) hy

theorem pu_build (EO : EnvOK P E) {t : TypeId} {parts : Array (Nat × Operand)} (ho : o.op = .build t parts) (h : opK E s (.build t parts) H = .ok r) : Pu P E s o H r := by
  unfold opK at h
  dsimp only at h
  replace h := tiK_ok h; obtain ⟨i, hi, h⟩ := h
  have T := EO.tt _ _ hi
  have hops : ∀ p ∈ parts.toList, p.2 ∈ o.op.operands.toList := by
    intro p hp
    simp only [ho, Op.operands, List.mem_map]
    exact ⟨p, hp, rfl⟩
  have fin : ∀ (place : Nat → Option (Nat × Nat)) (place' : Nat → (Nat → Nat → R ARes) → R ARes), (∀ i k q, place' i k = .ok q → ∃ off size, place i = some (off, size) ∧ k off size = .ok q) →
      (∀ (ps : List (Nat × Value)) (x : TypeInfo) (zv : Value), P.info? t = some x → x.zero = some zv → P.built t ps = Instr.fill place zv.cells ps) →
      fillK E s place' parts.toList i.zero (fun l => val (.agg l) H) = .ok r → Pu P E s o H r := by
    intro place place' hp hb h
    obtain ⟨out, h1, _, h2⟩ := fill_rel hp _ _ _ _ h
    refine ⟨_, val_ok h1, fun ρ a w c => ?_⟩
    obtain ⟨x, zv, h3, h4, h5⟩ := zero_rel T ρ
    obtain ⟨out', h6, h7⟩ := h2 ρ a (fun p hp v hv => c.ev hv (hops p hp)) zv.cells h5
    refine ⟨.agg out', ?_, .agg h7⟩
    have h8 : (Instr.build t (parts.map fun (i, x) => (i, a.eval x))).run P w = .ok (.agg out') w := by
      refine run_build w t _ _ ?_
      rw [hb _ x zv h3 h4, ← h6]
      congr 1
      simp
    simp only [execOp, ho, Sem.run_bind, h8, Result.andThen_ok, Sem.run_pure]
  split at h
  · rename_i fs hd
    have hu : P.underlying t = some (.struct fs) := by have := T.und; rwa [hd] at this
    obtain ⟨places, hpl, hpg⟩ := mapM_places (P := P) fs.toList (T.flds fs hd)
    refine fin (places.toArray[·]?) _ ?_ ?_ h
    · intro f k q hq
      obtain ⟨i', fs', fd, j, hi', hd', hf, hj, hq⟩ := fieldK_ok hq
      rw [hi] at hi'; cases hi'
      rw [hd] at hd'; cases hd'
      obtain ⟨x, _, hx, hxs, _⟩ := (EO.tt _ _ hj).info
      refine ⟨_, _, ?_, hq⟩
      have := hpg f fd x (by simpa using hf) hx
      rw [hxs] at this
      simpa using this
    · intro ps x zv hx hz
      simp only [Program.built, hx, hu, hz, hpl]
  · rename_i n e hd
    replace h := tiK_ok h; obtain ⟨j, hj, h⟩ := h
    have hu : P.underlying t = some (.array n e) := by have := T.und; rwa [hd] at this
    obtain ⟨y, _, hy, hys, _⟩ := (EO.tt _ _ hj).info
    refine fin (fun i => some (i * j.size, j.size)) _ ?_ ?_ h
    · intro f k q hq
      obtain ⟨_, hq⟩ := boolC_er hq
      exact ⟨_, _, rfl, hq⟩
    · intro ps x zv hx hz
      simp only [Program.built, hx, hu, hz, hy, hys]
  · cases h

/-! ### operators -/
theorem eqI_eq (a b : Int) : eqI a b = (a == b) := by
  cases a with
  | ofNat x =>
    cases b with
    | ofNat y =>
      show Nat.beq x y = _
      rw [Bool.eq_iff_iff, Nat.beq_eq, beq_iff_eq]
      exact ⟨fun h => congrArg _ h, fun h => Int.ofNat.inj h⟩
    | negSucc y => symm; show (Int.ofNat x == Int.negSucc y) = false; rw [beq_eq_false_iff_ne]; intro h; cases h
  | negSucc x =>
    cases b with
    | ofNat y => symm; show (Int.negSucc x == Int.ofNat y) = false; rw [beq_eq_false_iff_ne]; intro h; cases h
    | negSucc y =>
      show Nat.beq x y = _
      rw [Bool.eq_iff_iff, Nat.beq_eq, beq_iff_eq]
      exact ⟨fun h => congrArg _ h, fun h => Int.negSucc.inj h⟩
theorem boolC_false {β : Type} (x y : β) : boolC x y false = x := rfl
theorem boolC_true {β : Type} (x y : β) : boolC x y true = y := rfl
theorem beq_toNat (x y : UInt8) : Nat.beq x.toNat y.toNat = (x == y) := by
  rw [Bool.eq_iff_iff, Nat.beq_eq, beq_iff_eq]
  exact ⟨fun h => UInt8.toNat_inj.1 h, fun h => by rw [h]⟩
theorem eqB_eq : ∀ a b : List UInt8, eqB a b = (a == b)
  | [], [] => rfl
  | [], _ :: _ => rfl
  | _ :: _, [] => rfl
  | x :: a, y :: b => by
    show boolC false (eqB a b) (Nat.beq x.toNat y.toNat) = _
    rw [eqB_eq a b, beq_toNat]
    show boolC false (a == b) (x == y) = (x == y && a == b)
    cases x == y <;> rfl
theorem ltB_eq : ∀ a b : List UInt8, ltB a b = Op.bytesLess a b
  | [], [] => rfl
  | [], _ :: _ => rfl
  | _ :: _, [] => rfl
  | x :: a, y :: b => by
    show boolC (boolC false (ltB a b) (Nat.beq x.toNat y.toNat)) true (Nat.blt x.toNat y.toNat) = (decide (x < y) || (x == y && Op.bytesLess a b))
    rw [ltB_eq a b, beq_toNat]
    have : Nat.blt x.toNat y.toNat = decide (x < y) := by rw [Bool.eq_iff_iff, Nat.blt_eq, decide_eq_true_iff]; exact Iff.rfl
    rw [this]
    cases decide (x < y) <;> cases x == y <;> rfl
theorem bytes_toList (b : ByteArray) : b.toList = b.data.toList := ByteArray.toList_eq b

theorem binOp_ints (op : BinOp) (t : TypeId) (j k : IntKind) (a b : Int) : Go.binOp op t (.int j a) (.int k b) = Go.binOp op 0 (.int j a) (.int k b) := by
  cases op <;> rfl
theorem eqGuard_plain (op : BinOp) (t : TypeId) (x y : Operand) (u v : Value) (h1 : ∀ c, u ≠ .agg c) (h2 : u ≠ .nilIface) (w : World) : (eqGuard op t x y u v).run P w = .ok () w := by
  unfold eqGuard
  cases op <;> cases u <;> cases v <;> first | rfl | exact absurd rfl h2 | exact absurd rfl (h1 _)
theorem strOp_run {op : BinOp} {a b : ByteArray} {k : Value → R ARes} (h : strOp op a.data.toList b.data.toList k = .ok r) (t : TypeId) (w : World) :
    ∃ v, (Go.binOp op t (.string a) (.string b)).run P w = .ok v w ∧ k v = .ok r ∧ ∃ c, v = .bool c := by
  have h1 : ∀ x y, eqB x y = (x == y) := eqB_eq
  cases op <;> first
    | (cases h; done)
    | (refine ⟨_, ?_, h, _, rfl⟩
       simp only [Go.binOp, Op.stringOp, bytes_toList, eqB_eq, ltB_eq]
       first | rfl | (cases (a.data.toList == b.data.toList) <;> cases Op.bytesLess a.data.toList b.data.toList <;> rfl))

theorem neg1_ok {op : BinOp} {b : Bool} {k : Value → R ARes} (h : neg1 op b k = .ok r) : (op = .eql ∧ k (.bool b) = .ok r) ∨ (op = .neq ∧ k (.bool (!b)) = .ok r) := by
  cases op <;> first
    | (cases h; done)
    | exact .inl ⟨rfl, h⟩
    | (refine .inr ⟨rfl, ?_⟩; cases b <;> exact h)
/-- The machine's '==' and '!=' by its 'equal'. -/
theorem run_eq {t : TypeId} {u v : Value} {b : Bool} {w : World} (hu : ∀ j n, u ≠ .int j n) (hs : ∀ x, u ≠ .string x) (hf : ∀ j n, u ≠ .float j n) (hc : ∀ j n m, u ≠ .complex j n m) (h : (Op.equal t u v).run P w = .ok b w) :
    (Go.binOp .eql t u v).run P w = .ok (.bool b) w ∧ (Go.binOp .neq t u v).run P w = .ok (.bool (!b)) w := by
  have e1 : Go.binOp .eql t u v = (do pure (.bool (← Op.equal t u v))) := by
    cases u <;> first | exact absurd rfl (hu _ _) | exact absurd rfl (hs _) | exact absurd rfl (hf _ _) | exact absurd rfl (hc _ _ _) | (cases v <;> rfl)
  have e2 : Go.binOp .neq t u v = (do pure (.bool (!(← Op.equal t u v)))) := by
    cases u <;> first | exact absurd rfl (hu _ _) | exact absurd rfl (hs _) | exact absurd rfl (hf _ _) | exact absurd rfl (hc _ _ _) | (cases v <;> rfl)
  rw [e1, e2]
  simp [h]
end
end Go.Proofs.YtclljjfkaljdnaaGreatDoor
