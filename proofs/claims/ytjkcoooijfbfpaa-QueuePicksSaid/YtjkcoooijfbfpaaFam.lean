/- Regions that draw their order: one walk in the text's order serves every order, for a family of classes of worlds told apart by which operations are done. No program in sight. -/
import Derived.Test.YtjkcoooijfbfpaaLib
import Derived.Orders
namespace Go.Proofs.Ytjkcoooijfbfpaa
open Go.RowKit

/-- What is asked once an operation has yielded this. -/
def famUpon (P : Program) (C' : World → Prop) (v : Value) : Result Next → Prop
  | .ok (.value u) w' => u = v ∧ C' w'
  | .ok .skip w' => v = undef ∧ C' w'
  | .ok (.enter f args) w' => Calls P f args w' (fun e w'' => e = .returned v ∧ C' w'')
  | _ => False

/-- Operation k is done, too. -/
def doneToo (L : Nat → Bool) (k : Nat) : Nat → Bool := fun j => if j = k then true else L j

/-- What is done was not done ahead of what it waits for. -/
def ClosedL (ops : Array Oper) (L : Nat → Bool) : Prop := ∀ j o, ops[j]? = some o → L j = true → ∀ e ∈ o.after, Region.binds .any e = true → L e.on = true

/-- The walk in the text's order. -/
def wpFam (P : Program) (ops : Array Oper) (C : (Nat → Bool) → World → Prop) (Q : Act → Prop) : Nat → List Oper → Act → Prop
  | _, [], a => Q a
  | k, o :: rest, a =>
    if Region.wanted o (yielded ops a.tmps) then
      ∃ v, (∀ L w, ClosedL ops L → (∀ e ∈ o.after, Region.binds .any e = true → L e.on = true) → L k = false → C L w → famUpon P (C (doneToo L k)) v ((execOp a.eval o).run P w)) ∧ wpFam P ops C Q (k + 1) rest (a.put o.dst v)
    else (∀ L w, C L w → C (doneToo L k) w) ∧ wpFam P ops C Q (k + 1) rest (a.put o.dst undef)

/-- Is j among what i waits for? -/
def waitsFor (ops : Array Oper) (i j : Nat) : Bool := ((ops[i]?).map fun o => o.after.any fun e => Region.binds .any e && e.on == j).getD false

/-- Two operations: may they be looked at apart? (i before j in the text) -/
def pairOk (ops : Array Oper) (i j : Nat) : Bool :=
  match ops[i]?, ops[j]? with
  | some x, some y =>
    (match x.dst with
     | some d => (y.dst != some d) && (!(y.looksAt ops).contains d || waitsFor ops j i)
     | none => true) &&
    (match y.dst with
     | some d => !(x.looksAt ops).contains d || waitsFor ops j i
     | none => true)
  | _, _ => true

def famB (ops : Array Oper) : Bool :=
  Region.noSelect ops && ((List.range ops.size).all fun i => ((ops[i]?).map fun o => o.after.all fun e => !Region.binds .any e || e.on < i).getD true) && (ops.toList.all fun o => match o.dst with | some d => !(o.looksAt ops).contains d | none => true) &&
  (List.range ops.size).all fun j => (List.range j).all fun i => pairOk ops i j

theorem famB_spec {ops : Array Oper} (h : famB ops = true) {i j : Nat} (hij : i < j) {x y : Oper} (hx : ops[i]? = some x) (hy : ops[j]? = some y) :
    (∀ d, x.dst = some d → y.dst ≠ some d ∧ (d ∈ y.looksAt ops → waitsFor ops j i = true)) ∧ (∀ d, y.dst = some d → d ∈ x.looksAt ops → waitsFor ops j i = true) := by
  simp only [famB, Bool.and_eq_true, List.all_eq_true, List.mem_range] at h
  have hj : j < ops.size := (Array.getElem?_eq_some_iff.1 hy).1
  have := h.2 j hj i hij
  simp only [pairOk, hx, hy, Bool.and_eq_true] at this
  obtain ⟨h1, h2⟩ := this
  constructor
  · intro d hd
    rw [hd] at h1
    simp only [Bool.and_eq_true, Bool.or_eq_true, Bool.not_eq_true', bne_iff_ne, ne_eq] at h1
    refine ⟨h1.1, fun hm => h1.2.resolve_left (by simp [hm])⟩
  · intro d hd hm
    rw [hd] at h2
    simp only [Bool.or_eq_true, Bool.not_eq_true'] at h2
    exact h2.resolve_left (by simp [hm])

theorem famB_self {ops : Array Oper} (h : famB ops = true) {i : Nat} {x : Oper} (hx : ops[i]? = some x) : ∀ d, x.dst = some d → d ∉ x.looksAt ops := by
  simp only [famB, Bool.and_eq_true, List.all_eq_true] at h
  intro d hd hm
  have := h.1.2 x (Array.mem_toList_iff.2 (Array.mem_of_getElem? hx))
  rw [hd] at this
  simp [hm] at this

/-- The frame behind some operations and their values. -/
def puts (a : Act) : List (Oper × Value) → Act
  | [] => a
  | p :: l => puts (a.put p.1.dst p.2) l

theorem put_defers (a : Act) (x : Option Tmp) (v : Value) : (a.put x v).defers = a.defers := by cases x <;> rfl
theorem put_size (a : Act) (x : Option Tmp) (v : Value) : (a.put x v).tmps.size = a.tmps.size := by cases x <;> simp [Act.put]
theorem put_other (a : Act) (x : Option Tmp) (v : Value) (t : Tmp) (h : x ≠ some t) : (a.put x v).tmps[t]? = a.tmps[t]? := by
  cases x with
  | none => rfl
  | some d =>
    simp only [Act.put, Array.getElem?_setIfInBounds]
    rw [if_neg (fun e => h (by rw [e]))]
theorem put_same (a : Act) (v : Value) (t : Tmp) : (a.put (some t) v).tmps[t]? = if t < a.tmps.size then some v else none := by
  simp only [Act.put, Array.getElem?_setIfInBounds, if_true]

theorem puts_defers (l : List (Oper × Value)) : ∀ a : Act, (puts a l).defers = a.defers := by
  induction l with
  | nil => intro a; rfl
  | cons p l ih => intro a; rw [puts, ih, put_defers]
theorem puts_size (l : List (Oper × Value)) : ∀ a : Act, (puts a l).tmps.size = a.tmps.size := by
  induction l with
  | nil => intro a; rfl
  | cons p l ih => intro a; rw [puts, ih, put_size]
theorem puts_other (l : List (Oper × Value)) (t : Tmp) : ∀ a : Act, (∀ p ∈ l, p.1.dst ≠ some t) → (puts a l).tmps[t]? = a.tmps[t]? := by
  induction l with
  | nil => intro a _; rfl
  | cons p l ih =>
    intro a h
    rw [puts, ih _ (fun q hq => h q (by simp [hq])), put_other _ _ _ _ (h p (by simp))]
theorem puts_append (l m : List (Oper × Value)) : ∀ a : Act, puts a (l ++ m) = puts (puts a l) m := by
  induction l with
  | nil => intro a; rfl
  | cons p l ih => intro a; simp only [List.cons_append, puts, ih]

/-- The values that the walk found. -/
theorem wpFam_vals {P : Program} {ops : Array Oper} {C : (Nat → Bool) → World → Prop} {Q : Act → Prop} : ∀ (l : List Oper) (k : Nat) (a : Act), wpFam P ops C Q k l a →
    ∃ vs : List (Oper × Value), vs.map (·.1) = l ∧ Q (puts a vs) ∧ ∀ i o v, vs[i]? = some (o, v) →
      let b := puts a (vs.take i)
      (Region.wanted o (yielded ops b.tmps) = true ∧ ∀ L w, ClosedL ops L → (∀ e ∈ o.after, Region.binds .any e = true → L e.on = true) → L (k + i) = false → C L w → famUpon P (C (doneToo L (k + i))) v ((execOp b.eval o).run P w)) ∨
      (Region.wanted o (yielded ops b.tmps) = false ∧ v = undef ∧ ∀ L w, C L w → C (doneToo L (k + i)) w)
  | [], k, a, h => ⟨[], rfl, h, by simp⟩
  | o :: l, k, a, h => by
    unfold wpFam at h
    split at h
    · rename_i hw
      obtain ⟨v, h1, h2⟩ := h
      obtain ⟨vs, e, hq, hall⟩ := wpFam_vals l (k + 1) _ h2
      refine ⟨(o, v) :: vs, by simp [e], hq, ?_⟩
      rintro (_ | i) o' v' hi
      · simp only [List.getElem?_cons_zero, Option.some.injEq, Prod.mk.injEq] at hi
        obtain ⟨rfl, rfl⟩ := hi
        exact .inl ⟨hw, h1⟩
      · have := hall i o' v' (by simpa using hi)
        have e1 : k + 1 + i = k + (i + 1) := by omega
        rw [e1] at this
        exact this
    · rename_i hw
      obtain ⟨h1, h2⟩ := h
      obtain ⟨vs, e, hq, hall⟩ := wpFam_vals l (k + 1) _ h2
      refine ⟨(o, undef) :: vs, by simp [e], hq, ?_⟩
      rintro (_ | i) o' v' hi
      · simp only [List.getElem?_cons_zero, Option.some.injEq, Prod.mk.injEq] at hi
        obtain ⟨rfl, rfl⟩ := hi
        exact .inr ⟨by simpa [puts] using hw, rfl, h1⟩
      · have := hall i o' v' (by simpa using hi)
        have e1 : k + 1 + i = k + (i + 1) := by omega
        rw [e1] at this
        exact this

theorem famB_lt {ops : Array Oper} (h : famB ops = true) {i : Nat} {x : Oper} (hx : ops[i]? = some x) : ∀ e ∈ x.after, Region.binds .any e = true → e.on < i := by
  simp only [famB, Bool.and_eq_true, List.all_eq_true, List.mem_range] at h
  intro e he hb
  have := h.1.1.2 i (Array.getElem?_eq_some_iff.1 hx).1
  rw [hx] at this
  simp only [Option.map_some, Option.getD_some, Array.all_eq_true_iff_forall_mem] at this
  have := this e he
  simpa [hb] using this

theorem waitsFor_spec {ops : Array Oper} {i j : Nat} {x : Oper} (hx : ops[i]? = some x) (h : waitsFor ops i j = true) : ∃ e ∈ x.after, Region.binds .any e = true ∧ e.on = j := by
  simp only [waitsFor, hx, Option.map_some, Option.getD_some, Array.any_eq_true] at h
  obtain ⟨n, hn, h⟩ := h
  simp only [Bool.and_eq_true, beq_iff_eq] at h
  exact ⟨_, Array.getElem_mem hn, h.1, h.2⟩

/-- What holds in the midst of the region. -/
structure FamInv (ops : Array Oper) (C : (Nat → Bool) → World → Prop) (a : Act) (vs : List (Oper × Value)) (listed : Array Bool) (a' : Act) (w' : World) : Prop where
  size : listed.size = ops.size
  closed : ∀ j o, listed.getD j false = true → ops[j]? = some o → ∀ e ∈ o.after, Region.binds .any e = true → listed.getD e.on false = true
  defers : a'.defers = a.defers
  tsize : a'.tmps.size = a.tmps.size
  cls : C (fun k => listed.getD k false) w'
  done : ∀ (t : Tmp) (k : Nat) o v, vs[k]? = some (o, v) → o.dst = some t → listed.getD k false = true → a'.tmps[t]? = if t < a.tmps.size then some v else none
  still : ∀ t : Tmp, (∀ (k : Nat) o v, vs[k]? = some (o, v) → o.dst = some t → listed.getD k false = false) → a'.tmps[t]? = a.tmps[t]?

section
variable {P : Program} {ops : Array Oper} {C : (Nat → Bool) → World → Prop} {a : Act} {vs : List (Oper × Value)}

theorem vs_ops (he : vs.map (·.1) = ops.toList) {k : Nat} {o : Oper} {v : Value} (h : vs[k]? = some (o, v)) : ops[k]? = some o := by
  have : ops.toList[k]? = some o := by rw [← he, List.getElem?_map, h]; rfl
  simpa using this

theorem dst_one (hB : famB ops = true) (he : vs.map (·.1) = ops.toList) {i j : Nat} {x y : Oper} {u v : Value} {t : Tmp} (hx : vs[i]? = some (x, u)) (hy : vs[j]? = some (y, v)) (h1 : x.dst = some t) (h2 : y.dst = some t) : i = j := by
  rcases Nat.lt_trichotomy i j with h | h | h
  · exact absurd h2 ((famB_spec hB h (vs_ops he hx) (vs_ops he hy)).1 t h1).1
  · exact h
  · exact absurd h1 ((famB_spec hB h (vs_ops he hy) (vs_ops he hx)).1 t h2).1

theorem at_writer (hB : famB ops = true) (he : vs.map (·.1) = ops.toList) {i k : Nat} {o : Oper} {v : Value} {t : Tmp} (hk : vs[k]? = some (o, v)) (hd : o.dst = some t) (hlt : k < i) :
    (puts a (vs.take i)).tmps[t]? = if t < a.tmps.size then some v else none := by
  have hklen : k < vs.length := (List.getElem?_eq_some_iff.1 hk).1
  have e1 : vs.take i = vs.take k ++ (o, v) :: ((vs.drop (k + 1)).take (i - (k + 1))) := by
    have h1 : vs.take i = vs.take (k + 1) ++ (vs.drop (k + 1)).take (i - (k + 1)) := by
      have : i = (k + 1) + (i - (k + 1)) := by omega
      conv => lhs; rw [this, List.take_add]
    rw [h1, List.take_add_one, hk]; simp
  rw [e1, puts_append, puts, puts_other _ t, hd, put_same, puts_size]
  intro p hp hpd
  obtain ⟨n, hn⟩ := List.getElem?_of_mem (List.mem_of_mem_take hp)
  rw [List.getElem?_drop] at hn
  have := dst_one hB he hk (y := p.1) (v := p.2) hn hd hpd
  omega

theorem at_other {i : Nat} {t : Tmp} (h : ∀ (k : Nat) o v, vs[k]? = some (o, v) → o.dst = some t → ¬ k < i) : (puts a (vs.take i)).tmps[t]? = a.tmps[t]? := by
  refine puts_other _ t _ ?_
  intro p hp hpd
  obtain ⟨n, hn⟩ := List.getElem?_of_mem hp
  rw [List.getElem?_take] at hn
  split at hn
  · rename_i hlt
    exact h n p.1 p.2 hn hpd hlt
  · cases hn

theorem agree (hB : famB ops = true) (he : vs.map (·.1) = ops.toList) {listed : Array Bool} {a' : Act} {w' : World} (hI : FamInv ops C a vs listed a' w') {i : Nat} {o : Oper} (ho : ops[i]? = some o)
    (hun : listed.getD i false = false) (hr : ∀ e ∈ o.after, Region.binds .any e = true → listed.getD e.on false = true) {t : Tmp} (ht : t ∈ o.looksAt ops) : a'.tmps[t]? = (puts a (vs.take i)).tmps[t]? := by
  by_cases hw : ∃ (k : Nat) (x : Oper) (v : Value), vs[k]? = some (x, v) ∧ x.dst = some t
  · obtain ⟨k, x, v, hk, hd⟩ := hw
    have hkx := vs_ops he hk
    rcases Nat.lt_trichotomy k i with h | h | h
    · obtain ⟨e, hem, hb, hon⟩ := waitsFor_spec ho (((famB_spec hB h hkx ho).1 t hd).2 ht)
      have hl := hr e hem hb
      rw [hon] at hl
      rw [hI.done t k x v hk hd hl, at_writer hB he hk hd h]
    · subst h
      rw [hkx] at ho
      cases ho
      exact absurd ht (famB_self hB hkx t hd)
    · obtain ⟨e, hem, hb, hon⟩ := waitsFor_spec hkx ((famB_spec hB h ho hkx).2 t hd ht)
      rw [hI.still t, at_other]
      · intro k' x' v' hk' hd' hlt
        have := dst_one hB he hk hk' hd hd'
        omega
      · intro k' x' v' hk' hd'
        have := dst_one hB he hk hk' hd hd'
        subst this
        cases hh : listed.getD k false with
        | false => rfl
        | true =>
          have := hI.closed k x hh hkx e hem hb
          rw [hon, hun] at this
          cases this
  · rw [hI.still t (fun k x v hk hd => absurd ⟨k, x, v, hk, hd⟩ hw), at_other (fun k x v hk hd _ => hw ⟨k, x, v, hk, hd⟩)]

theorem getD_of_get {x y : Array Value} {t : Tmp} (h : x[t]? = y[t]?) : x.getD t undef = y.getD t undef := by
  rw [Array.getD_eq_getD_getElem?, Array.getD_eq_getD_getElem?, h]

theorem same_exec (hB : famB ops = true) (he : vs.map (·.1) = ops.toList) {listed : Array Bool} {a' : Act} {w' : World} (hI : FamInv ops C a vs listed a' w') {i : Nat} {o : Oper} (ho : ops[i]? = some o)
    (hun : listed.getD i false = false) (hr : ∀ e ∈ o.after, Region.binds .any e = true → listed.getD e.on false = true) :
    execOp a'.eval o = execOp (puts a (vs.take i)).eval o ∧ Region.wanted o (yielded ops a'.tmps) = Region.wanted o (yielded ops (puts a (vs.take i)).tmps) := by
  have hs : Region.noSelect ops = true := by simp only [famB, Bool.and_eq_true] at hB; exact hB.1.1.1
  constructor
  · refine execOp_congr o (fun cs b => Region.noSelect_spec hs i o cs b ho) (fun x hx => ?_)
    cases x with
    | tmp t =>
      refine getD_of_get (agree hB he hI ho hun hr ?_)
      exact List.mem_append_left _ (List.mem_filterMap.2 ⟨.tmp t, by simpa using hx, rfl⟩)
    | const v => rfl
    | global g => rfl
    | func f => rfl
  · unfold Region.wanted
    cases hg : o.guard with
    | none => rfl
    | some gw =>
      obtain ⟨g, want⟩ := gw
      have hy : yielded ops a'.tmps g = yielded ops (puts a (vs.take i)).tmps g := by
        unfold yielded
        cases ht : (ops[g]?).bind (·.dst) with
        | none => rfl
        | some t =>
          have := agree hB he hI ho hun hr (t := t) (List.mem_append_right _ (by simp [hg, ht]))
          simp only [Option.bind_some, this]
      simp only [hy]

theorem inv_step (hB : famB ops = true) (he : vs.map (·.1) = ops.toList) {listed : Array Bool} {a' : Act} {w' w'' : World} (hI : FamInv ops C a vs listed a' w') {i : Nat} {o : Oper} {v : Value} (hv : vs[i]? = some (o, v))
    (hr : ∀ e ∈ o.after, Region.binds .any e = true → listed.getD e.on false = true) (hC : C (doneToo (fun k => listed.getD k false) i) w'') :
    FamInv ops C a vs (listed.setIfInBounds i true) (a'.put o.dst v) w'' := by
  have ho := vs_ops he hv
  have hi : i < listed.size := by rw [hI.size]; exact (Array.getElem?_eq_some_iff.1 ho).1
  have hget : ∀ j, (listed.setIfInBounds i true).getD j false = if j = i then true else listed.getD j false := by
    intro j
    by_cases h : j = i
    · subst h; simp [hi]
    · rw [if_neg h]; exact getD_set_ne false (Ne.symm h)
  refine ⟨by simp [hI.size], ?_, by rw [put_defers, hI.defers], by rw [put_size, hI.tsize], ?_, ?_, ?_⟩
  · intro j x hj hx e hem hb
    rw [hget] at hj ⊢
    by_cases h : j = i
    · subst h
      rw [ho] at hx; cases hx
      split
      · rfl
      · exact hr e hem hb
    · rw [if_neg h] at hj
      split
      · rfl
      · exact hI.closed j x hj hx e hem hb
  · have : (fun k => (listed.setIfInBounds i true).getD k false) = doneToo (fun k => listed.getD k false) i := by
      funext j; rw [hget]; rfl
    rw [this]; exact hC
  · intro t k x u hk hd hl
    by_cases h : k = i
    · subst h
      rw [hv] at hk; cases hk
      rw [hd, put_same, hI.tsize]
    · rw [put_other _ _ _ _ (fun e => h (dst_one hB he hk hv hd e))]
      rw [hget, if_neg h] at hl
      exact hI.done t k x u hk hd hl
  · intro t hall
    rw [put_other]
    · refine hI.still t (fun k x u hk hd => ?_)
      have := hall k x u hk hd
      rw [hget] at this
      split at this
      · cases this
      · exact this
    · intro hd
      have := hall i o v hv hd
      rw [hget, if_pos rfl] at this
      cases this

theorem all_listed (hB : famB ops = true) {listed : Array Bool} (hs : listed.size = ops.size) (hr : Region.ready .any ops listed = []) : ∀ n j, j < n → j < ops.size → listed.getD j false = true := by
  intro n
  induction n with
  | zero => intro j h; omega
  | succ n ih =>
    intro j hj hjs
    cases hl : listed.getD j false with
    | true => rfl
    | false =>
      exfalso
      have hm : j ∈ Region.ready .any ops listed := by
        refine mem_ready.2 ⟨?_, ops[j], by simp [hjs], fun e he hb => ?_⟩
        · have : j < listed.size := by omega
          simpa [this] using hl
        · have hlt := famB_lt hB (show ops[j]? = some ops[j] by simp [hjs]) e he hb
          exact ih e.on (by omega) (by omega)
      rw [hr] at hm
      cases hm

theorem wpAny_fam {Q : Exit → Act → World → Prop} (hB : famB ops = true) (he : vs.map (·.1) = ops.toList)
    (hvs : ∀ i o v, vs[i]? = some (o, v) → let b := puts a (vs.take i)
      (Region.wanted o (yielded ops b.tmps) = true ∧ ∀ L w, ClosedL ops L → (∀ e ∈ o.after, Region.binds .any e = true → L e.on = true) → L i = false → C L w → famUpon P (C (doneToo L i)) v ((execOp b.eval o).run P w)) ∨
      (Region.wanted o (yielded ops b.tmps) = false ∧ v = undef ∧ ∀ L w, C L w → C (doneToo L i) w))
    (hQ : ∀ L w', (∀ k, k < ops.size → L k = true) → C L w' → Q .normal (puts a vs) w') :
    ∀ (fuel : Nat) (listed : Array Bool) (a' : Act) (w' : World), FamInv ops C a vs listed a' w' → (∀ k, fuel = 0 → k < ops.size → listed.getD k false = true) →
      ops.size - listed.toList.countP (· == true) ≤ fuel → wpAny P .any ops Q fuel listed a' w' := by
  have hend : ∀ listed a' w', FamInv ops C a vs listed a' w' → (∀ k, k < ops.size → listed.getD k false = true) → Q .normal a' w' := by
    intro listed a' w' hI hall
    have hlen : vs.length = ops.size := by have := congrArg List.length he; simpa using this
    have : a' = puts a vs := by
      obtain ⟨tm, df⟩ := a'
      have h1 : df = (puts a vs).defers := by rw [puts_defers]; exact hI.defers
      have h2 : tm = (puts a vs).tmps := by
        apply Array.ext_getElem?
        intro t
        by_cases hw : ∃ (k : Nat) (x : Oper) (v : Value), vs[k]? = some (x, v) ∧ x.dst = some t
        · obtain ⟨k, x, v, hk, hd⟩ := hw
          have hk' := (List.getElem?_eq_some_iff.1 hk).1
          have h3 := at_writer (a := a) hB he (i := vs.length) hk hd hk'
          rw [List.take_length] at h3
          rw [h3]
          exact hI.done t k x v hk hd (hall k (by omega))
        · have h3 := at_other (a := a) (vs := vs) (i := vs.length) (t := t) (fun k x v hk hd _ => hw ⟨k, x, v, hk, hd⟩)
          rw [List.take_length] at h3
          rw [h3]
          exact hI.still t (fun k x v hk hd => absurd ⟨k, x, v, hk, hd⟩ hw)
      cases h : puts a vs with
      | mk tm' df' => rw [h] at h1 h2; simp at h1 h2; rw [h1, h2]
    rw [this]
    exact hQ _ w' hall hI.cls
  intro fuel
  induction fuel with
  | zero =>
    intro listed a' w' hI hz _
    have hall := fun k hk => hz k rfl hk
    refine ⟨?_, hend _ _ _ hI hall⟩
    cases hr : Region.ready .any ops listed with
    | nil => rfl
    | cons i r =>
      have hm : i ∈ Region.ready .any ops listed := by rw [hr]; simp
      obtain ⟨h1, o, ho, _⟩ := mem_ready.1 hm
      have hi := (Array.getElem?_eq_some_iff.1 ho).1
      have := hall i hi
      have hi' : i < listed.size := by rw [hI.size]; exact hi
      simp [hi'] at h1 this
      rw [h1] at this; cases this
  | succ fuel ih =>
    intro listed a' w' hI _ hcnt
    refine ⟨fun hr => hend _ _ _ hI (fun k hk => all_listed hB hI.size hr (k + 1) k (by omega) hk), fun i hm => ?_⟩
    obtain ⟨h1, o, ho, hr⟩ := mem_ready.1 hm
    have hi := (Array.getElem?_eq_some_iff.1 ho).1
    have hi' : i < listed.size := by rw [hI.size]; exact hi
    have hun : listed.getD i false = false := by simp [hi'] at h1 ⊢; exact h1
    obtain ⟨v, hv⟩ : ∃ v, vs[i]? = some (o, v) := by
      have : (vs.map (·.1))[i]? = some o := by rw [he]; simpa using ho
      rw [List.getElem?_map] at this
      cases hh : vs[i]? with
      | none => simp [hh] at this
      | some p => simp [hh] at this; exact ⟨p.2, by rw [← this]⟩
    obtain ⟨e1, e2⟩ := same_exec hB he hI ho hun hr
    have hcnt' : ops.size - (listed.setIfInBounds i true).toList.countP (· == true) ≤ fuel := by
      have hli : listed.toList[i]'(by simpa using hi') = false := by simp [hi'] at hun; simpa using hun
      have : (listed.setIfInBounds i true).toList.countP (· == true) = listed.toList.countP (· == true) + 1 := by
        rw [Array.toList_setIfInBounds]
        rw [List.countP_set (by simpa using hi'), hli]
        simp
      omega
    have hz' : ∀ k, fuel = 0 → k < ops.size → (listed.setIfInBounds i true).getD k false = true := by
      intro k hf hk
      subst hf
      have hle : (listed.setIfInBounds i true).toList.length ≤ (listed.setIfInBounds i true).toList.countP (· == true) := by
        simp only [Array.length_toList, Array.size_setIfInBounds, hI.size]; omega
      have hall := List.countP_eq_length.1 (Nat.le_antisymm List.countP_le_length hle)
      have hk' : k < (listed.setIfInBounds i true).toList.length := by simp [hI.size, hk]
      have := hall _ (List.getElem_mem hk')
      simp only [beq_iff_eq] at this
      have hks : k < (listed.setIfInBounds i true).size := by simpa using hk'
      rw [Array.getD_eq_getD_getElem?, Array.getElem?_eq_getElem hks]
      simpa using (Array.getElem_toList hks).symm.trans this
    unfold wpOp
    simp only [ho, e2]
    rcases hvs i o v hv with ⟨hw, hup⟩ | ⟨hw, rfl, hC⟩
    · rw [if_pos hw]
      refine .inl ?_
      have h3 := hup (fun k => listed.getD k false) w' (fun j o hj hl => hI.closed j o hl hj) hr hun hI.cls
      unfold Oper.wp
      rw [e1]
      generalize (execOp (puts a (vs.take i)).eval o).run P w' = r at *
      cases r with
      | ok n w'' =>
        cases n <;> simp only [famUpon] at h3 <;> simp only [Oper.upon]
        case value u =>
          obtain ⟨rfl, h4⟩ := h3
          exact ih _ _ _ (inv_step hB he hI hv hr h4) hz' hcnt'
        case skip =>
          obtain ⟨rfl, h4⟩ := h3
          exact ih _ _ _ (inv_step hB he hI hv hr h4) hz' hcnt'
        case enter f args =>
          exact h3.mono fun e w''' ⟨hee, h4⟩ => by subst hee; exact ih _ _ _ (inv_step hB he hI hv hr h4) hz' hcnt'
      | halt x w'' => simp only [famUpon] at h3
    · rw [if_neg (by simp [hw])]
      exact ih _ _ _ (inv_step hB he hI hv hr (hC _ _ hI.cls)) hz' hcnt'

theorem repl_getD (n k : Nat) : (Array.replicate n false).getD k false = false := by
  rw [Array.getD_eq_getD_getElem?, Array.getElem?_replicate]
  split <;> rfl

/-- **THE RULE.** -/
theorem wp_region_fam {id : Nat} {Q : Exit → Act → World → Prop} {w : World} (hm : P.follows .mixedOrders = true) (hB : famB ops = true) (C : (Nat → Bool) → World → Prop)
    (h0 : ∀ L, (∀ k, k < ops.size → L k = false) → C L w.drew)
    (h : wpFam P ops C (fun a' => ∀ L w', (∀ k, k < ops.size → L k = true) → C L w' → Q .normal a' w') 0 ops.toList a) : (Code.region id ops true).wp P Q a w := by
  obtain ⟨vs, he, hq, hall⟩ := wpFam_vals _ _ _ h
  simp only [Nat.zero_add] at hall
  refine wp_region_any hm (wpAny_fam hB he hall hq _ _ _ _ ⟨by simp, ?_, rfl, rfl, ?_, ?_, fun _ _ => rfl⟩ ?_ (by omega))
  · intro j o hj
    rw [repl_getD] at hj; cases hj
  · exact h0 _ (fun k _ => repl_getD _ _)
  · intro t k o v _ _ hl
    rw [repl_getD] at hl; cases hl
  · intro k hz hk; omega

theorem wp_region_fam_lit {id : Nat} {Q : Exit → Act → World → Prop} {w : World} {l : List Oper} (hm : P.follows .mixedOrders = true) (hB : famB l.toArray = true) (C : (Nat → Bool) → World → Prop)
    (h0 : ∀ L, (∀ k, k < l.length → L k = false) → C L w.drew)
    (h : wpFam P l.toArray C (fun a' => ∀ L w', (∀ k, k < l.length → L k = true) → C L w' → Q .normal a' w') 0 l a) : (Code.region id l.toArray true).wp P Q a w :=
  wp_region_fam hm hB C (by simpa using h0) (by simpa using h)
end

section
variable {P : Program} {ops : Array Oper} {C : (Nat → Bool) → World → Prop} {Q : Act → Prop} {k : Nat} {o : Oper} {rest : List Oper} {a : Act}
/-- An operation that yields a value and leaves the world as it is. -/
theorem wpFam_value (hg : o.guard = none) (v : Value) (h : ∀ L w, ClosedL ops L → (∀ e ∈ o.after, Region.binds .any e = true → L e.on = true) → L k = false → C L w → (execOp a.eval o).run P w = .ok (.value v) w) (hC : ∀ L w, C L w → C (doneToo L k) w)
    (h2 : wpFam P ops C Q (k + 1) rest (a.put o.dst v)) : wpFam P ops C Q k (o :: rest) a := by
  unfold wpFam
  rw [if_pos (by simp [Region.wanted, hg])]
  refine ⟨v, fun L w hcl hd hk hc => ?_, h2⟩
  rw [h L w hcl hd hk hc]
  exact ⟨rfl, hC L w hc⟩
/-- A call. -/
theorem wpFam_call (hg : o.guard = none) (f : FuncId) (args : Array Value) (v : Value) (h : ∀ w, (execOp a.eval o).run P w = .ok (.enter f args) w)
    (hc : ∀ L w, ClosedL ops L → (∀ e ∈ o.after, Region.binds .any e = true → L e.on = true) → L k = false → C L w → Calls P f args w (fun e w'' => e = .returned v ∧ C (doneToo L k) w''))
    (h2 : wpFam P ops C Q (k + 1) rest (a.put o.dst v)) : wpFam P ops C Q k (o :: rest) a := by
  unfold wpFam
  rw [if_pos (by simp [Region.wanted, hg])]
  refine ⟨v, fun L w hcl hd hk hcc => ?_, h2⟩
  rw [h w]
  exact hc L w hcl hd hk hcc
/-- An operation that changes the world. -/
theorem wpFam_turn (hg : o.guard = none) (v : Value) (h : ∀ L w, ClosedL ops L → (∀ e ∈ o.after, Region.binds .any e = true → L e.on = true) → L k = false → C L w → ∃ w', (execOp a.eval o).run P w = .ok (.value v) w' ∧ C (doneToo L k) w')
    (h2 : wpFam P ops C Q (k + 1) rest (a.put o.dst v)) : wpFam P ops C Q k (o :: rest) a := by
  unfold wpFam
  rw [if_pos (by simp [Region.wanted, hg])]
  refine ⟨v, fun L w hcl hd hk hc => ?_, h2⟩
  obtain ⟨w', h1, h3⟩ := h L w hcl hd hk hc
  rw [h1]
  exact ⟨rfl, h3⟩
/-- .. and yields nothing. -/
theorem wpFam_skip (hg : o.guard = none) (h : ∀ L w, ClosedL ops L → (∀ e ∈ o.after, Region.binds .any e = true → L e.on = true) → L k = false → C L w → ∃ w', (execOp a.eval o).run P w = .ok .skip w' ∧ C (doneToo L k) w')
    (h2 : wpFam P ops C Q (k + 1) rest (a.put o.dst undef)) : wpFam P ops C Q k (o :: rest) a := by
  unfold wpFam
  rw [if_pos (by simp [Region.wanted, hg])]
  refine ⟨undef, fun L w hcl hd hk hc => ?_, h2⟩
  obtain ⟨w', h1, h3⟩ := h L w hcl hd hk hc
  rw [h1]
  exact ⟨rfl, h3⟩
/-- A guarded operation that is wanted, or not. -/
theorem wpFam_off (hw : Region.wanted o (yielded ops a.tmps) = false) (hC : ∀ L w, C L w → C (doneToo L k) w) (h2 : wpFam P ops C Q (k + 1) rest (a.put o.dst undef)) : wpFam P ops C Q k (o :: rest) a := by
  unfold wpFam
  rw [if_neg (by simp [hw])]
  exact ⟨hC, h2⟩
theorem wpFam_on_value (hw : Region.wanted o (yielded ops a.tmps) = true) (v : Value) (h : ∀ L w, ClosedL ops L → (∀ e ∈ o.after, Region.binds .any e = true → L e.on = true) → L k = false → C L w → (execOp a.eval o).run P w = .ok (.value v) w) (hC : ∀ L w, C L w → C (doneToo L k) w)
    (h2 : wpFam P ops C Q (k + 1) rest (a.put o.dst v)) : wpFam P ops C Q k (o :: rest) a := by
  unfold wpFam
  rw [if_pos hw]
  refine ⟨v, fun L w hcl hd hk hc => ?_, h2⟩
  rw [h L w hcl hd hk hc]
  exact ⟨rfl, hC L w hc⟩
theorem wpFam_on_call (hw : Region.wanted o (yielded ops a.tmps) = true) (f : FuncId) (args : Array Value) (v : Value) (h : ∀ w, (execOp a.eval o).run P w = .ok (.enter f args) w)
    (hc : ∀ L w, ClosedL ops L → (∀ e ∈ o.after, Region.binds .any e = true → L e.on = true) → L k = false → C L w → Calls P f args w (fun e w'' => e = .returned v ∧ C (doneToo L k) w''))
    (h2 : wpFam P ops C Q (k + 1) rest (a.put o.dst v)) : wpFam P ops C Q k (o :: rest) a := by
  unfold wpFam
  rw [if_pos hw]
  refine ⟨v, fun L w hcl hd hk hcc => ?_, h2⟩
  rw [h w]
  exact hc L w hcl hd hk hcc
/-- The same, the value found by the walk: 'apply Exists.intro; refine ⟨fun L w' _ _ hh => ?_, ?_⟩'. -/
theorem wpFam_val (hw : Region.wanted o (yielded ops a.tmps) = true) (hC : ∀ L w, C L w → C (doneToo L k) w)
    (h : ∃ v, (∀ L w, ClosedL ops L → (∀ e ∈ o.after, Region.binds .any e = true → L e.on = true) → L k = false → C L w → (execOp a.eval o).run P w = .ok (.value v) w) ∧ wpFam P ops C Q (k + 1) rest (a.put o.dst v)) : wpFam P ops C Q k (o :: rest) a := by
  obtain ⟨v, h1, h2⟩ := h
  exact wpFam_on_value hw v h1 hC h2
theorem wanted_none (h : o.guard = none) : Region.wanted o (yielded ops a.tmps) = true := by simp [Region.wanted, h]
theorem wpFam_end (h : Q a) : wpFam P ops C Q k [] a := by unfold wpFam; exact h
end

/-- Does i wait, through others, for j? -/
def depB (ops : Array Oper) : Nat → Nat → Nat → Bool
  | 0, _, _ => false
  | n + 1, i, j => ((ops[i]?).map fun o => o.after.any fun e => Region.binds .any e && (e.on == j || depB ops n e.on j)).getD false
theorem dep_true {ops : Array Oper} {L : Nat → Bool} (hcl : ClosedL ops L) : ∀ (n i j : Nat), depB ops n i j = true → L i = true → L j = true
  | 0, _, _, h, _ => by simp [depB] at h
  | n + 1, i, j, h, hi => by
    unfold depB at h
    cases ho : ops[i]? with
    | none => simp [ho] at h
    | some o =>
      simp only [ho, Option.map_some, Option.getD_some, Array.any_eq_true] at h
      obtain ⟨m, hm, h⟩ := h
      simp only [Bool.and_eq_true, Bool.or_eq_true, beq_iff_eq] at h
      have he := hcl i o ho hi _ (Array.getElem_mem hm) h.1
      rcases h.2 with h2 | h2
      · rw [← h2]; exact he
      · exact dep_true hcl n _ j h2 he
theorem dep_false {ops : Array Oper} {L : Nat → Bool} (hcl : ClosedL ops L) (n : Nat) {i j : Nat} (h : depB ops n i j = true) (hj : L j = false) : L i = false := by
  cases hi : L i with
  | false => rfl
  | true => rw [dep_true hcl n i j h hi] at hj; cases hj
end Go.Proofs.Ytjkcoooijfbfpaa
