/- The evaluator's operations and the machine's: types, operands, memory. No program in sight. -/
import Derived.Test.YtclljjfkaljdnaaGreatDoorE4
namespace Go.Proofs.YtclljjfkaljdnaaGreatDoor
open Go.RowKit

/-- What the table says of a type. -/
structure TIOK (P : Program) (t : TypeId) (i : TI) : Prop where
  und : P.underlying t = some i.desc
  info : ∃ x zv, P.info? t = some x ∧ x.size = i.size ∧ x.bytes = i.bytes ∧ x.zero = some zv ∧ i.zero = zv.cells.toList.map AV.lit ∧ ((isAggD i.desc = true ∧ ∃ cs, zv = .agg cs) ∨ (isAggD i.desc = false ∧ zv.oneCell' = true))
  len : i.zero.length = i.size
  cell : allCell i.zero = true
  flds : ∀ fs, i.desc = .struct fs → ∀ f ∈ fs.toList, ∃ x, P.info? f.type = some x

structure KeyFacts (P : Program) (t : TypeId) (ks : KS) : Prop where
  ko : KeyOK P t (KP ks)
  eq : ∀ x y w, KP ks x → KP ks y → (Op.equal t x y).run P w = .ok (eqKV x y) w
  gd : P.eqGuardType P.depth t = false

structure EnvOK (P : Program) (E : Env) : Prop where
  tt : ∀ t i, E.tt.get t = some i → TIOK P t i
  ft : ∀ f fn, E.ft.get f = some fn → P.funcs[f]? = some fn
  nm : ∀ (f : FuncId) (fn : Func), P.funcs[f]? = some fn → fn.body.isSome = true → (fn.name == "runtime.NumGoroutine") = false
  ky : ∀ t ks, E.ky.get t = some ks → KeyFacts P t ks
  mixed : P.follows .mixedOrders = true
  pl : ∀ (f : FuncId) (fn : Func) (c : Code), E.ft.get f = some fn → fn.body = some c → OKc E f c

theorem tiK_ok {E : Env} {β : Type} {t : TypeId} {k : TypeDesc → Nat → Nat → List AV → R β} {r : β} (h : tiK E t k = .ok r) : ∃ i, E.tt.get t = some i ∧ k i.desc i.size i.bytes i.zero = .ok r := by
  obtain ⟨i, h1, h2⟩ := getK_ok h
  exact ⟨i, h1, h2⟩

section
variable {P : Program} {t : TypeId} {i : TI}
theorem TIOK.run_und (h : TIOK P t i) (w : World) : (underlying t).run P w = .ok i.desc w := run_underlying h.und w
theorem TIOK.run_size (h : TIOK P t i) (w : World) : (sizeOf t).run P w = .ok i.size w := by
  obtain ⟨x, zv, h1, h2, _⟩ := h.info
  simp [sizeOf, typeInfo, h1, h2]
theorem TIOK.run_isAgg (h : TIOK P t i) (w : World) : (isAgg t).run P w = .ok (isAggD i.desc) w := by
  unfold isAgg
  simp only [Sem.run_bind, h.run_und w, Result.andThen_ok]
  cases i.desc <;> rfl
theorem TIOK.run_info (h : TIOK P t i) (w : World) : ∃ x, (typeInfo t).run P w = .ok x w ∧ x.size = i.size ∧ x.bytes = i.bytes := by
  obtain ⟨x, zv, h1, h2, h3, _⟩ := h.info
  exact ⟨x, by simp [typeInfo, h1], h2, h3⟩
theorem TIOK.run_zero (h : TIOK P t i) (w : World) : ∃ zv, (zeroValue t).run P w = .ok zv w ∧ i.zero = zv.cells.toList.map AV.lit ∧ ((isAggD i.desc = true ∧ ∃ cs, zv = .agg cs) ∨ (isAggD i.desc = false ∧ zv.oneCell' = true)) := by
  obtain ⟨x, zv, h1, h2, h3, h4, h5, h6⟩ := h.info
  exact ⟨zv, by simp [zeroValue, typeInfo, h1, h4], h5, h6⟩
end

theorem rl_lits {ρ : Ren} (l : List Value) : RlL ρ (l.map AV.lit) l := by
  induction l with
  | nil => exact .nil
  | cons v l ih => exact .cons (.lit v) ih
theorem cells_one {v : Value} (h : v.oneCell' = true) : v.cells = #[v] := by cases v <;> simp_all [Value.oneCell', Value.cells]
theorem isCell_one {ρ : Ren} {a : AV} {v : Value} (h : Rl ρ a v) (hc : isCell a = true) : v.oneCell' = true := by
  cases h with
  | lit v => cases v <;> first | rfl | (cases hc)
  | agg _ => cases hc
  | tup _ => cases hc
  | _ => rfl
theorem cellsOf_rel {ρ : Ren} {a : AV} {v : Value} (h : Rl ρ a v) (hc : allCell (cellsOf a) = true) : RlL ρ (cellsOf a) v.cells.toList ∧ ∀ x ∈ v.cells.toList, x.oneCell' = true := by
  cases h with
  | @agg _ l' hl =>
    refine ⟨hl, fun x hx => ?_⟩
    obtain ⟨n, hn⟩ := List.getElem?_of_mem hx
    have hlen := hl.length
    obtain ⟨hlt, _⟩ := List.getElem?_eq_some_iff.1 hn
    obtain ⟨v', h1, h2⟩ := hl.get (List.getElem?_eq_getElem (by rw [hlen]; exact hlt))
    have hn' : l'.toList[n]? = some x := hn
    rw [hn'] at h1; cases h1
    exact isCell_one h2 (allCell_spec hc _ (List.getElem_mem _))
  | lit v =>
    have hv : v.oneCell' = true := isCell_one (ρ := ρ) (.lit v) (allCell_spec hc _ (by simp [cellsOf]))
    rw [cells_one hv]
    exact ⟨.cons (.lit v) .nil, fun x hx => by simp at hx; subst hx; exact hv⟩
  | tup _ =>
    have := allCell_spec hc _ (List.mem_singleton.2 rfl)
    cases this
  | ptr e => exact ⟨.cons (.ptr e) .nil, fun x hx => by simp [Value.cells] at hx; subst hx; rfl⟩
  | sl e h1 h2 h3 h4 h5 => exact ⟨.cons (.sl e h1 h2 h3 h4 h5) .nil, fun x hx => by simp [Value.cells] at hx; subst hx; rfl⟩
  | esl => exact ⟨.cons .esl .nil, fun x hx => by simp [Value.cells] at hx; subst hx; rfl⟩
  | map e => exact ⟨.cons (.map e) .nil, fun x hx => by simp [Value.cells] at hx; subst hx; rfl⟩
  | yld e => exact ⟨.cons (.yld e) .nil, fun x hx => by simp [Value.cells] at hx; subst hx; rfl⟩
  | fn h1 h2 => exact ⟨.cons (.fn h1 h2) .nil, fun x hx => by simp [Value.cells] at hx; subst hx; rfl⟩
/-- Of how many cells a value is. -/
theorem cellsOf_len {ρ : Ren} {a : AV} {v : Value} (h : Rl ρ a v) (hc : allCell (cellsOf a) = true) : (cellsOf a).length = v.cells.size := by
  have := (cellsOf_rel h hc).1.length
  simpa using this

/-! ### operands -/
/-- x is v here, whatever the machine's frame: for slots by the evaluator's frame. -/
def Ev (E : Env) (s : Tr AV) (x : Operand) (v : AV) : Prop :=
  match x with
  | .tmp t => s.get t = some v
  | .const c => ∀ ρ, Rl ρ v c
  | .global g => ∃ id, E.gl.get g = some id ∧ v = .ptr id 0
  | .func f => v = .fn (.func f) [] []
theorem evK_ok {E : Env} {s : Tr AV} {β : Type} {x : Operand} {k : AV → R β} {r : β} (h : evK E s x k = .ok r) : ∃ v, Ev E s x v ∧ k v = .ok r := by
  cases x with
  | tmp t => exact getK_ok h
  | const c =>
    have h' : ofV c k = .ok r := h
    cases c <;> try exact ⟨_, fun ρ => .lit _, h'⟩
    rename_i cs
    have h2 : mapK (fun v k => k (AV.lit v)) cs.toList (fun l => k (.agg l)) = .ok r := h'
    obtain ⟨l, h3, h4⟩ := mapK_ok (S := fun v a => a = AV.lit v) (fun a k r h => ⟨_, rfl, h⟩) h2
    refine ⟨_, fun ρ => ?_, h4⟩
    have : l = cs.toList.map AV.lit := by
      clear h2 h4 h h'
      generalize cs.toList = m at h3
      induction h3 with
      | nil => rfl
      | cons e _ ih => rw [e, ih]; rfl
    rw [this]
    exact .agg (rl_lits _)
  | global g =>
    obtain ⟨id, h1, h2⟩ := getK_ok h
    exact ⟨_, ⟨id, h1, rfl⟩, h2⟩
  | func f => exact ⟨_, rfl, h⟩

/-- The slots that an operand looks at read as the evaluator's. -/
def Sees (ρ : Ren) (s : Tr AV) (a : Act) (x : Operand) : Prop :=
  match x with
  | .tmp t => ∀ v, s.get t = some v → ∃ v', a.tmps[t]? = some v' ∧ Rl ρ v v'
  | _ => True

section
variable {P : Program} {E : Env} {w0 w : World} {ρ : Ren} {H : AH} {s : Tr AV} {a : Act}
theorem Ev.rel (hr : HR E w0 ρ H w) {x : Operand} {v : AV} (h : Ev E s x v) (hs : Sees ρ s a x) : Rl ρ v (a.eval x) := by
  cases x with
  | tmp t =>
    obtain ⟨v', h1, h2⟩ := hs v h
    show Rl ρ v (a.tmps.getD t undef)
    rw [Array.getD_eq_getD_getElem?, h1]; exact h2
  | const c => exact h ρ
  | global g =>
    obtain ⟨id, h1, rfl⟩ := h
    obtain ⟨N, h2⟩ := hr.glob g id h1
    exact .ptr h2
  | func f => have h' : v = .fn (.func f) [] [] := h; subst h'; exact .fn .nil .nil

theorem evL_ok {β : Type} {l : List Operand} {k : List AV → R β} {r : β} (h : mapK (evK E s) l k = .ok r) : ∃ vs, F2 (Ev E s) l vs ∧ k vs = .ok r :=
  mapK_ok (fun _ _ _ h => evK_ok h) h
theorem evL_rel (hr : HR E w0 ρ H w) {l : List Operand} {vs : List AV} (h : F2 (Ev E s) l vs) (hs : ∀ x ∈ l, Sees ρ s a x) : RlL ρ vs (l.map a.eval) := by
  induction h with
  | nil => exact .nil
  | cons h1 _ ih => exact .cons (h1.rel hr (hs _ (by simp))) (ih fun x hx => hs x (by simp [hx]))

/-! ### memory -/
theorem addr_of (b off : Nat) : ∀ j, (⟨b, off, none⟩ : Addr).add j = ⟨b, off + j, none⟩ := fun j => by unfold Addr.add; split <;> simp_all
/-- A row of the evaluator's cells, as the machine reads them. -/
theorem HR.read (hr : HR E w0 ρ H w) {id b sh N n off m : Nat} {t : Tr AV} {ro : Bool} {l : List AV} (hi : ρ id = some (b, sh, N)) (ho : H.t.get id = some (.cells n t ro)) (hn : off + m ≤ n) (hl : l.length = m)
    (hg : ∀ i, i < m → ∃ x, l[i]? = some x ∧ t.get (off + i) = some x) : ∃ vs, vs.length = m ∧ RlL ρ l vs ∧ ∀ j v, vs[j]? = some v → w.cell? (((⟨b, sh + off, none⟩ : Addr)).add j) = some v := by
  obtain ⟨c, e, fz, h1, h2, h3, _, h5, _⟩ := hr.obj _ _ _ _ _ hi ho
  have hv : ∀ i, i < m → ∃ x v, l[i]? = some x ∧ c[sh + (off + i)]? = some v ∧ Rl ρ x v := by
    intro i hm
    obtain ⟨x, ha, hb⟩ := hg i hm
    obtain ⟨v, hc, hd⟩ := h5 (off + i) x (by omega) hb
    exact ⟨x, v, ha, hc, hd⟩
  have hext : ((c.toList.drop (sh + off)).take m).length = m := by
    simp only [List.length_take, List.length_drop, Array.length_toList]; omega
  have hat : ∀ i, i < m → ((c.toList.drop (sh + off)).take m)[i]? = c[sh + (off + i)]? := by
    intro i hm
    rw [List.getElem?_take, if_pos hm, List.getElem?_drop, Array.getElem?_toList, Nat.add_assoc]
  refine ⟨(c.toList.drop (sh + off)).take m, hext, RlL.of_get (by rw [hext, hl]) fun i x v hx hvv => ?_, fun j v hj => ?_⟩
  · have him : i < m := by rw [← hl]; exact (List.getElem?_eq_some_iff.1 hx).1
    obtain ⟨x', v', h6, h7, h8⟩ := hv i him
    rw [hx] at h6; cases h6
    rw [hat i him, h7] at hvv; cases hvv
    exact h8
  · have hjm : j < m := by rw [← hext]; exact (List.getElem?_eq_some_iff.1 hj).1
    rw [hat j hjm] at hj
    rw [addr_of]
    refine cell_of_blk h1 ?_
    rw [← hj]; congr 1; omega

/-- What H has H2 has, too. -/
def Keeps (H H2 : AH) : Prop := ∀ id o, H.t.get id = some o → H2.t.get id = some o
theorem HR.load (EO : EnvOK P E) {H2 : AH} (hk2 : Keeps H H2) (hr : HR E w0 ρ H2 w) {β : Type} {t : TypeId} {a : AV} {v : Value} {k : AV → R β} {r : β} (h : loadK E t a H k = .ok r) (ha : Rl ρ a v) :
    ∃ ad x v', v = .pointer (some ad) ∧ (loadVar t ad).run P w = .ok v' w ∧ Rl ρ x v' ∧ k x = .ok r := by
  cases ha with
  | @ptr id off b sh N hi =>
    obtain ⟨o, ho, h⟩ := objK_ok h
    cases o with
    | cells n cs ro =>
      obtain ⟨i, hti, h⟩ := tiK_ok h
      have T := EO.tt _ _ hti
      refine ⟨⟨b, sh + off, none⟩, ?_⟩
      cases hag : isAggD i.desc with
      | false =>
        rw [hag] at h
        obtain ⟨hlt, h⟩ := boolC_er (x := getK cs off k (.er [28, id, off])) h
        obtain ⟨x, hx, h⟩ := getK_ok h
        have hlt' : off + 1 ≤ n := by rw [Nat.blt_eq] at hlt; omega
        have h0 : ∀ j, j < 1 → ∃ y, [x][j]? = some y ∧ cs.get (off + j) = some y := by
          intro j hj
          obtain rfl : j = 0 := by omega
          exact ⟨x, rfl, hx⟩
        obtain ⟨vs, h1, h2, h3⟩ := hr.read (off := off) (m := 1) (l := [x]) hi (hk2 _ _ ho) hlt' rfl h0
        cases h2 with
        | @cons _ u _ _ h4 h5 =>
          have hc := h3 0 u rfl
          refine ⟨x, u, rfl, ?_, h4, h⟩
          unfold loadVar
          simp only [Sem.run_bind, T.run_isAgg w, hag, Result.andThen_ok, Bool.false_eq_true, if_false]
          rw [addr_of] at hc
          simp only [Nat.add_zero] at hc
          simp [hc]
      | true =>
        rw [hag] at h
        obtain ⟨hlt, h⟩ := boolC_er (x := readK cs off i.size fun l => k (.agg l)) h
        have hlt' : off + i.size ≤ n := by simpa [Nat.ble_eq] using hlt
        obtain ⟨l, h1, h2, h3⟩ := readK_spec h
        obtain ⟨vs, h4, h5, h6⟩ := hr.read hi (hk2 _ _ ho) hlt' h1 h2
        refine ⟨.agg l, .agg vs.toArray, rfl, ?_, .agg (by simpa using h5), h3⟩
        unfold loadVar
        have hrun := run_loadCells_list (P := P) w ⟨b, sh + off, none⟩ vs h6
        rw [h4] at hrun
        simp only [Sem.run_bind, T.run_isAgg w, hag, Result.andThen_ok, if_true, T.run_size w, hrun, Sem.run_pure]
    | bag _ => cases h
    | map _ _ _ => cases h
    | loop _ _ _ _ _ _ _ _ _ => cases h
    | deferred => cases h
  | lit v => cases h
  | sl _ _ _ _ _ _ => cases h
  | esl => cases h
  | map _ => cases h
  | yld _ => cases h
  | fn _ _ => cases h
  | agg _ => cases h
  | tup _ => cases h

/-- A row of cells written over. -/
theorem HR.write (hr : HR E w0 ρ H w) {H' : AH} {id b sh N n off : Nat} {t t' : Tr AV} {l : List AV} {vs : List Value} (hi : ρ id = some (b, sh, N)) (ho : H.t.get id = some (.cells n t false)) (hn : off + l.length ≤ n)
    (hl : RlL ρ l vs) (h1 : ∀ v ∈ vs, v.oneCell' = true) (ht : ∀ j, t'.get j = if off ≤ j ∧ j < off + l.length then l[j - off]? else t.get j) (hT : Turned H id (some (.cells n t' false)) H') :
    ∃ w', (storeCells ⟨b, sh + off, none⟩ vs).run P w = .ok () w' ∧ HR E w0 ρ H' w' ∧ Later ρ H ρ H' := by
  obtain ⟨c, e, fz, h2, h3, h4, h5, h6, h7⟩ := hr.obj _ _ _ _ _ hi ho
  rw [h5 rfl] at h2
  have hlen := hl.length
  have hcl : c.toList.length = c.size := Array.length_toList
  have hsz : sh + off + vs.length ≤ c.size := by omega
  have hrun := run_storeCells_at (P := P) b (sh + off) e vs 0 c w h2 (by simpa using hsz) h1
  simp only [Nat.add_zero] at hrun
  refine ⟨_, hrun, ?_⟩
  refine hr.turn hi ho rfl rfl hT ?_ (by simp [World.setRow]) (fun k hk => setRow_other _ _ _ _ hk) rfl rfl rfl
  rw [setRow_heap w b c _ e (0, 0) h2]
  refine ⟨_, e, (0, 0), rfl, ?_, h4, fun _ => rfl, fun i av hin hav => ?_, h7⟩
  · simp only [List.size_toArray, List.length_append, List.length_take, List.length_drop, Array.length_toList]; omega
  · rw [ht] at hav
    rw [List.getElem?_toArray]
    by_cases e1 : off ≤ i ∧ i < off + l.length
    · rw [if_pos e1] at hav
      obtain ⟨v, hv, hrl⟩ := hl.get hav
      refine ⟨v, ?_, hrl⟩
      rw [List.getElem?_append_left (by simp only [List.length_append, List.length_take]; omega), List.getElem?_append_right (by simp only [List.length_take]; omega), List.length_take, Array.length_toList, Nat.min_eq_left (by omega)]
      rw [← hv]; congr 1; omega
    · rw [if_neg e1] at hav
      obtain ⟨v, hv, hrl⟩ := h6 i av hin hav
      refine ⟨v, ?_, hrl⟩
      by_cases e2 : i < off
      · rw [List.getElem?_append_left (by simp only [List.length_append, List.length_take]; omega), List.getElem?_append_left (by simp only [List.length_take]; omega), List.getElem?_take, if_pos (by omega), Array.getElem?_toList]; exact hv
      · rw [List.getElem?_append_right (by simp only [List.length_append, List.length_take]; omega), List.length_append, List.length_take, Array.length_toList, Nat.min_eq_left (by omega), List.getElem?_drop, Array.getElem?_toList, ← hv]
        congr 1; simp only [List.size_toArray]; omega

theorem HR.store (EO : EnvOK P E) (hr : HR E w0 ρ H w) {β : Type} {t : TypeId} {a x : AV} {v xv : Value} {k : AH → R β} {r : β} (h : storeK E t a x H k = .ok r) (ha : Rl ρ a v) (hx : Rl ρ x xv) :
    ∃ ad w' H', v = .pointer (some ad) ∧ (storeVar t ad xv).run P w = .ok () w' ∧ HR E w0 ρ H' w' ∧ Later ρ H ρ H' ∧ k H' = .ok r := by
  cases ha with
  | @ptr id off b sh N hi =>
    obtain ⟨o, ho, h⟩ := objK_ok h
    cases o with
    | cells n cs ro =>
      obtain ⟨hro, h⟩ := boolC_re h
      subst hro
      obtain ⟨i, hti, h⟩ := tiK_ok h
      have T := EO.tt _ _ hti
      rw [lenK_eq] at h
      obtain ⟨hm, h⟩ := boolC_er h
      obtain ⟨hc, h⟩ := boolC_er h
      obtain ⟨hle, h⟩ := boolC_er h
      obtain ⟨t', ht', h⟩ := writeK_ok h
      obtain ⟨H', hT, h⟩ := updK_ok h
      have hm' : (cellsOf x).length = i.size := by simpa using hm
      have hle' : off + i.size ≤ n := by simpa [Nat.ble_eq] using hle
      obtain ⟨hrl, hone⟩ := cellsOf_rel hx hc
      obtain ⟨w', h1, h2, h3⟩ := hr.write (P := P) hi ho (by omega) hrl hone ht' hT
      refine ⟨_, w', H', rfl, ?_, h2, h3, h⟩
      unfold storeVar
      have hsz := cellsOf_len hx hc
      simp only [Sem.run_bind, T.run_size w, Result.andThen_ok]
      rw [if_neg (by simp; omega)]
      exact h1
    | bag _ => cases h
    | map _ _ _ => cases h
    | loop _ _ _ _ _ _ _ _ _ => cases h
    | deferred => cases h
  | lit v => cases h
  | sl _ _ _ _ _ _ => cases h
  | esl => cases h
  | map _ => cases h
  | yld _ => cases h
  | fn _ _ => cases h
  | agg _ => cases h
  | tup _ => cases h

/-- A new row of cells. -/
theorem HR.row (hr : HR E w0 ρ H w) {H' : AH} {n m : Nat} {t : Tr AV} {vs : List Value} (ha : Added H (.cells n t false) H') (hn : n ≤ vs.length) (hm : vs.length = m) (ht : ∀ i av, i < n → t.get i = some av → ∃ v, vs[i]? = some v ∧ Rl ρ av v) (e : TypeId) :
    HR E w0 (ρ.add H.next (w.heap.size, 0, m)) H' (w.alloc (.cells vs.toArray e)) ∧ Later ρ H (ρ.add H.next (w.heap.size, 0, m)) H' := by
  refine hr.alloc ha ⟨_, e, (0, 0), rfl, by simp [hm], by omega, fun _ => rfl, fun i av hi hav => ?_, fun _ => rfl⟩
  obtain ⟨v, hv, hrl⟩ := ht i av hi hav
  exact ⟨v, by simpa using hv, hrl.mono (Ren.add_ext hr.fresh)⟩
theorem Ren.add_self (ρ : Ren) (id : Nat) (p : Nat × Nat × Nat) : (ρ.add id p) id = some p := by unfold Ren.add; simp
end
end Go.Proofs.YtclljjfkaljdnaaGreatDoor
