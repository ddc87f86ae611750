/- The check of a plan, by masks. No program in sight. -/
import Derived.Test.YtclljjfkaljdnaaGreatDoorE20
namespace Go.Proofs.YtclljjfkaljdnaaGreatDoor
open Go.RowKit

/-- What is known of an operation: its slot, what it looks at, what is ahead of it (as masks), its class. -/
structure OI where
  d : Nat
  l : Nat
  a : Nat
  c : Nat

noncomputable def tmpsM (l : List Operand) : Nat := List.rec (motive := fun _ => Nat) 0 (fun x _ ih => match x with | .tmp t => Nat.lor (Nat.pow 2 t) ih | _ => ih) l
noncomputable def dstM (o : Oper) : Nat := match o.dst with | some t => Nat.pow 2 t | none => 0
noncomputable def nthO (l : List Oper) (n : Nat) : Option Oper := List.rec (motive := fun _ => Nat → Option Oper) (fun _ => none) (fun a _ ih n => Nat.rec (motive := fun _ => Option Oper) (some a) (fun m _ => ih m) n) l n
noncomputable def guardM (ops : List Oper) (o : Oper) : Nat := match o.guard with | none => 0 | some (g, _) => match nthO ops g with | some o' => dstM o' | none => 0
noncomputable def clsN (o : Op) : Nat := match cls o with | .pu => 0 | .ro => 1 | .al => 2 | .wr => 3
noncomputable def ancK (i : Nat) (t : Tr OI) (l : List Edge) (k : Nat → Bool) : Bool :=
  List.rec (motive := fun _ => Nat → Bool) k (fun e _ ih m => boolC (ih m) (boolC false (getK t e.on (fun q => forceN (Nat.lor m (Nat.lor (Nat.pow 2 e.on) q.a)) ih) false) (Nat.blt e.on i)) (Region.binds .any e)) l 0
noncomputable def infoK (ops : List Oper) (l : List Oper) (k : Tr OI → Bool) : Nat → Tr OI → Bool :=
  List.rec (motive := fun _ => Nat → Tr OI → Bool) (fun _ t => k t)
    (fun o _ ih i t => ancK i t o.after.toList fun a => forceN (Nat.lor (tmpsM o.op.operands.toList) (guardM ops o)) fun lm => forceN (dstM o) fun d => forceN (clsN o.op) fun c =>
      setK 64 t i (some ⟨d, lm, a, c⟩) (fun t' => forceN (Nat.succ i) fun i' => ih i' t') false) l
noncomputable def allN (n : Nat) (p : Nat → Bool) : Bool := Nat.rec (motive := fun _ => Bool) true (fun i ih => boolC false ih (p i)) n
noncomputable def orB (a b : Bool) : Bool := boolC b true a
noncomputable def pairB (t : Tr OI) (i m : Nat) : Bool :=
  getK t i (fun q => getK t m (fun r => orB (Nat.beq i m) (boolC false (orB (Nat.beq (Nat.land r.d q.l) 0) (orB (Nat.testBit q.a m) (Nat.testBit r.a i))) (Nat.beq (Nat.land q.d r.d) 0))) false) false
noncomputable def rlookB (t : Tr OI) (n i : Nat) : Bool :=
  getK t i (fun q => allN n fun m => getK t m (fun r => orB (Nat.beq (Nat.land r.d q.l) 0) (Nat.testBit q.a m)) false) false
noncomputable def maskL (l : List Nat) (m : Nat) : Nat := List.rec (motive := fun _ => Nat) m (fun i _ ih => Nat.lor (Nat.pow 2 i) ih) l
/-- The steps: done, writers done, readers done, all that is asked again. -/
noncomputable def stepsK (t : Tr OI) (pl : List PStep) (k : Nat → Nat → Bool) : Nat → Nat → Nat → Nat → Bool :=
  List.rec (motive := fun _ => Nat → Nat → Nat → Nat → Bool) (fun done _ _ ag => k done ag)
    (fun p _ ih done wm rm ag => match p with
      | .op i => getK t i (fun q => boolC (boolC false (boolC false (boolC (forceN (Nat.lor done (Nat.pow 2 i)) fun done' => forceN (boolC rm (Nat.lor rm (Nat.pow 2 i)) (Nat.beq q.c 1)) fun rm' => ih done' wm rm' ag) false (Nat.beq q.c 3)) (Nat.beq (Nat.lor wm q.a) q.a)) (Nat.beq (Nat.lor done q.a) done)) false (Nat.testBit done i)) false
      | .wr i re => getK t i (fun q => boolC (boolC false (boolC false (forceN (maskL re q.a) fun am => boolC false (forceN (Nat.lor done (Nat.pow 2 i)) fun done' => forceN (Nat.lor wm (Nat.pow 2 i)) fun wm' => forceN (boolC rm (Nat.lor rm (Nat.pow 2 i)) (Nat.beq q.c 1)) fun rm' => forceN (maskL re ag) fun ag' => ih done' wm' rm' ag') (Nat.beq (Nat.lor rm am) am)) (Nat.beq (Nat.lor wm q.a) q.a)) (Nat.beq (Nat.lor done q.a) done)) false (Nat.testBit done i)) false) pl
noncomputable def lenN {α : Type} (l : List α) : Nat := List.rec (motive := fun _ => Nat) 0 (fun _ _ ih => Nat.succ ih) l
noncomputable def planB (ops : Array Oper) (pl : List PStep) : Bool :=
  boolC false (forceN (lenN ops.toList) fun n => infoK ops.toList ops.toList (fun t => boolC false
    (stepsK t pl (fun done ag => boolC false (allN n fun i => boolC true (rlookB t n i) (Nat.testBit ag i)) (allN n fun i => Nat.testBit done i)) 0 0 0 0)
    (allN n fun i => allN n fun m => pairB t i m)) 0 .e) (Region.noSelect ops)

/-! ### what the words mean -/
theorem allN_ok {p : Nat → Bool} : ∀ {n : Nat}, allN n p = true → ∀ i, i < n → p i = true
  | 0, _, i, h => by omega
  | n + 1, h, i, hi => by
    have h' : boolC false (allN n p) (p n) = true := h
    obtain ⟨h1, h2⟩ := boolC_ff h'
    by_cases e : i = n
    · rw [e]; exact h1
    · exact allN_ok h2 i (by omega)
theorem orB_ok {a b : Bool} (h : orB a b = true) : a = true ∨ b = true := by
  cases a with
  | true => exact .inl rfl
  | false => exact .inr h
theorem boolC_tf {x y : Bool} (h : boolC x false y = true) : y = false ∧ x = true := by
  cases y with
  | true => cases h
  | false => exact ⟨rfl, h⟩
theorem getK_b {α : Type} {t : Tr α} {n : Nat} {k : α → Bool} (h : getK t n k false = true) : ∃ v, t.get n = some v ∧ k v = true := by
  rw [getK_eq] at h
  cases e : t.get n with
  | none => rw [e] at h; cases h
  | some v => rw [e] at h; exact ⟨v, rfl, h⟩
theorem setK_b {α : Type} {f : Nat} {t : Tr α} {n : Nat} {v : Option α} {k : Tr α → Bool} (h : setK f t n v k false = true) : ∃ t', (∀ j, t'.get j = if j = n then v else t.get j) ∧ k t' = true := by
  rw [setK_eq] at h
  cases e : t.set f n v with
  | none => rw [e] at h; cases h
  | some t' => rw [e] at h; exact ⟨t', Tr.set_get _ _ _ _ _ e, h⟩
theorem lor_eq (a b : Nat) : Nat.lor a b = a ||| b := rfl
theorem land_eq (a b : Nat) : Nat.land a b = a &&& b := rfl
theorem pow_eq (a b : Nat) : Nat.pow a b = a ^ b := rfl
theorem bit_self (i : Nat) : (2 ^ i).testBit i = true := Nat.testBit_two_pow_self
theorem bit_pow (i j : Nat) : (2 ^ i).testBit j = decide (i = j) := by rw [Nat.testBit_two_pow]
theorem tmpsM_cons (x : Operand) (l : List Operand) : tmpsM (x :: l) = (match x with | .tmp t => Nat.lor (Nat.pow 2 t) (tmpsM l) | _ => tmpsM l) := rfl
theorem tmpsM_ok {t : Tmp} : ∀ {l : List Operand}, Operand.tmp t ∈ l → (tmpsM l).testBit t = true
  | x :: l, h => by
    have ih := @tmpsM_ok t l
    rw [tmpsM_cons]
    rcases List.mem_cons.1 h with e | h2
    · subst e
      show (2 ^ t ||| tmpsM l).testBit t = true
      rw [Nat.testBit_or, bit_self, Bool.true_or]
    · clear h
      cases x with
      | tmp u =>
        show (2 ^ u ||| tmpsM l).testBit t = true
        rw [Nat.testBit_or, ih h2, Bool.or_true]
      | const v => exact ih h2
      | global g => exact ih h2
      | func f => exact ih h2
theorem nthO_eq : ∀ (l : List Oper) (n : Nat), nthO l n = l[n]?
  | [], _ => rfl
  | a :: l, 0 => rfl
  | a :: l, n + 1 => (nthO_eq l n).trans (by simp)
theorem looks_mask {ops : Array Oper} {o : Oper} {t : Tmp} (h : t ∈ o.looksAt ops) : (Nat.lor (tmpsM o.op.operands.toList) (guardM ops.toList o)).testBit t = true := by
  rw [lor_eq, Nat.testBit_or, Bool.or_eq_true]
  unfold Oper.looksAt at h
  rcases List.mem_append.1 h with h | h
  · left
    obtain ⟨x, hx, he⟩ := List.mem_filterMap.1 h
    cases x with
    | tmp u => cases he; exact tmpsM_ok hx
    | const v => cases he
    | global g => cases he
    | func f => cases he
  · right
    unfold guardM
    cases hg : o.guard with
    | none => rw [hg] at h; simp at h
    | some gb =>
      obtain ⟨g, b⟩ := gb
      rw [hg] at h
      dsimp only at h ⊢
      rw [nthO_eq, Array.getElem?_toList]
      cases ho : ops[g]? with
      | none => rw [ho] at h; simp at h
      | some o' =>
        rw [ho] at h
        dsimp only
        unfold dstM
        cases hd : o'.dst with
        | none => simp [hd] at h
        | some u =>
          have : t = u := by simpa [hd] using h
          subst this
          exact bit_self t

theorem ancK_ok {ops : Array Oper} {i : Nat} {o : Oper} {t : Tr OI} {k : Nat → Bool} (ho : ops[i]? = some o) (ht : ∀ j q, t.get j = some q → ∀ m, q.a.testBit m = true → Anc ops j m) :
    ∀ (l : List Edge) (m : Nat), (∀ e ∈ l, e ∈ o.after) → (∀ x, m.testBit x = true → Anc ops i x) →
      List.rec (motive := fun _ => Nat → Bool) k (fun e _ ih m => boolC (ih m) (boolC false (getK t e.on (fun q => forceN (Nat.lor m (Nat.lor (Nat.pow 2 e.on) q.a)) ih) false) (Nat.blt e.on i)) (Region.binds .any e)) l m = true →
      ∃ m', k m' = true ∧ (∀ x, m'.testBit x = true → Anc ops i x) ∧ (∀ x, m.testBit x = true → m'.testBit x = true) ∧ ∀ e ∈ l, Region.binds .any e = true → m'.testBit e.on = true
  | [], m, _, hm, h => ⟨m, h, hm, fun _ hx => hx, by simp⟩
  | e :: l, m, hl, hm, h => by
    have h' : boolC (List.rec (motive := fun _ => Nat → Bool) k (fun e _ ih m => boolC (ih m) (boolC false (getK t e.on (fun q => forceN (Nat.lor m (Nat.lor (Nat.pow 2 e.on) q.a)) ih) false) (Nat.blt e.on i)) (Region.binds .any e)) l m)
        (boolC false (getK t e.on (fun q => forceN (Nat.lor m (Nat.lor (Nat.pow 2 e.on) q.a)) (List.rec (motive := fun _ => Nat → Bool) k (fun e _ ih m => boolC (ih m) (boolC false (getK t e.on (fun q => forceN (Nat.lor m (Nat.lor (Nat.pow 2 e.on) q.a)) ih) false) (Nat.blt e.on i)) (Region.binds .any e)) l)) false) (Nat.blt e.on i)) (Region.binds .any e) = true := h
    cases hb : Region.binds .any e with
    | false =>
      rw [hb] at h'
      obtain ⟨m', h1, h2, h3, h4⟩ := ancK_ok ho ht l m (fun x hx => hl x (by simp [hx])) hm h'
      refine ⟨m', h1, h2, h3, fun x hx hbx => ?_⟩
      rcases List.mem_cons.1 hx with rfl | hx
      · rw [hb] at hbx; cases hbx
      · exact h4 x hx hbx
    | true =>
      rw [hb, boolC_true] at h'
      obtain ⟨_, h'⟩ := boolC_ff h'
      obtain ⟨q, hq, h'⟩ := getK_b h'
      obtain ⟨qd, ql, qa, qc⟩ := q
      dsimp only at h'
      rw [forceN_eq] at h'
      have hea : e ∈ o.after := hl e (by simp)
      obtain ⟨m', h1, h2, h3, h4⟩ := ancK_ok ho ht l _ (fun x hx => hl x (by simp [hx])) (fun x hx => by
        rw [lor_eq, lor_eq, Nat.testBit_or, Nat.testBit_or, Bool.or_eq_true, Bool.or_eq_true] at hx
        rcases hx with hx | hx | hx
        · exact hm x hx
        · rw [pow_eq, bit_pow, decide_eq_true_iff] at hx
          exact .edge ho hea hb hx
        · exact .step ho hea hb rfl (ht _ _ hq x hx)) h'
      refine ⟨m', h1, h2, fun x hx => h3 x (by rw [lor_eq, Nat.testBit_or, hx, Bool.true_or]), fun x hx hbx => ?_⟩
      rcases List.mem_cons.1 hx with rfl | hx
      · refine h3 _ ?_
        rw [lor_eq, lor_eq, Nat.testBit_or, Nat.testBit_or, pow_eq, bit_self]; simp
      · exact h4 x hx hbx

/-- What the table of operations says. -/
structure OIOK (ops : Array Oper) (i : Nat) (o : Oper) (q : OI) : Prop where
  d : q.d = dstM o
  l : q.l = Nat.lor (tmpsM o.op.operands.toList) (guardM ops.toList o)
  c : q.c = clsN o.op
  a : ∀ m, q.a.testBit m = true → Anc ops i m
  e : ∀ e ∈ o.after, Region.binds .any e = true → q.a.testBit e.on = true
theorem infoK_ok {ops : Array Oper} {k : Tr OI → Bool} : ∀ (l : List Oper) (i : Nat) (t : Tr OI), (∀ j, l[j]? = ops[i + j]?) → (∀ j q, t.get j = some q → ∃ o, ops[j]? = some o ∧ OIOK ops j o q) → (∀ j o, j < i → ops[j]? = some o → ∃ q, t.get j = some q) → infoK ops.toList l k i t = true →
    ∃ t', k t' = true ∧ (∀ j q, t'.get j = some q → ∃ o, ops[j]? = some o ∧ OIOK ops j o q) ∧ ∀ j o, ops[j]? = some o → ∃ q, t'.get j = some q
  | [], i, t, hl, ht, hi, h => ⟨t, h, ht, fun j o ho => hi j o (by
      rcases Nat.lt_or_ge j i with g | g
      · exact g
      · have := hl (j - i)
        rw [show i + (j - i) = j from by omega, ho] at this
        simp at this) ho⟩
  | o :: l, i, t, hl, ht, hi, h => by
    have ho : ops[i]? = some o := by have := hl 0; simpa using this.symm
    have h' : ancK i t o.after.toList (fun a => forceN (Nat.lor (tmpsM o.op.operands.toList) (guardM ops.toList o)) fun lm => forceN (dstM o) fun d => forceN (clsN o.op) fun c =>
      setK 64 t i (some ⟨d, lm, a, c⟩) (fun t' => forceN (Nat.succ i) fun i' => infoK ops.toList l k i' t') false) = true := h
    obtain ⟨a, h1, h2, _, h4⟩ := ancK_ok ho (fun j q hq m hm => by obtain ⟨o', _, hq'⟩ := ht j q hq; exact hq'.a m hm) _ 0 (fun e he => by simpa using he) (fun x hx => by simp at hx) h'
    rw [forceN_eq, forceN_eq, forceN_eq] at h1
    obtain ⟨t', ht', h1⟩ := setK_b h1
    rw [forceN_eq] at h1
    refine infoK_ok l (i + 1) t' (fun j => ?_) (fun j q hq => ?_) (fun j o' hj ho' => ?_) h1
    · have := hl (j + 1)
      rw [show i + 1 + j = i + (j + 1) from by omega, ← this]; simp
    · rw [ht'] at hq
      split at hq
      · rename_i e
        subst e
        cases hq
        exact ⟨o, ho, rfl, rfl, rfl, h2, fun e he hb => h4 e (by simpa using he) hb⟩
      · exact ht j q hq
    · rw [ht']
      split
      · exact ⟨_, rfl⟩
      · exact hi j o' (by omega) ho'

theorem dst_bit {o : Oper} {t : Tmp} (h : o.dst = some t) : dstM o = 2 ^ t := by unfold dstM; rw [h]; rfl
theorem no_meet {a b t : Nat} (h : Nat.beq (Nat.land a b) 0 = true) (h1 : a.testBit t = true) (h2 : b.testBit t = true) : False := by
  have h' := Nat.beq_eq.mp h
  rw [land_eq] at h'
  have : (a &&& b).testBit t = true := by rw [Nat.testBit_and, h1, h2]; rfl
  rw [h'] at this; simp at this
theorem sub_mask {a b : Nat} (h : Nat.beq (Nat.lor a b) b = true) {i : Nat} (hi : a.testBit i = true) : b.testBit i = true := by
  have h' := Nat.beq_eq.mp h
  rw [← h', lor_eq, Nat.testBit_or, hi, Bool.true_or]
theorem sub_mask' {a b : Nat} (h : Nat.beq (Nat.lor a b) a = true) {i : Nat} (hi : b.testBit i = true) : a.testBit i = true := by
  have h' := Nat.beq_eq.mp h
  rw [← h', lor_eq, Nat.testBit_or, hi, Bool.or_true]
theorem maskL_ok : ∀ (l : List Nat) (m x : Nat), (maskL l m).testBit x = true ↔ (x ∈ l ∨ m.testBit x = true)
  | [], m, x => by simp [maskL]
  | i :: l, m, x => by
    have e : maskL (i :: l) m = Nat.lor (Nat.pow 2 i) (maskL l m) := rfl
    rw [e, lor_eq, Nat.testBit_or, Bool.or_eq_true, maskL_ok l m x, pow_eq, bit_pow, decide_eq_true_iff, List.mem_cons, or_assoc]
    constructor <;> (intro h; rcases h with h | h <;> first | exact .inl h.symm | exact .inr h)
theorem or_pow {m i x : Nat} : (Nat.lor m (Nat.pow 2 i)).testBit x = true ↔ (m.testBit x = true ∨ i = x) := by
  rw [lor_eq, Nat.testBit_or, Bool.or_eq_true, pow_eq, bit_pow, decide_eq_true_iff]
theorem clsN_ro {o : Op} : clsN o = 1 ↔ cls o = .ro := by unfold clsN; cases cls o <;> simp
theorem clsN_wr {o : Op} : clsN o = 3 ↔ cls o = .wr := by unfold clsN; cases cls o <;> simp

/-- The masks behind some steps. -/
structure MI (ops : Array Oper) (pre : List PStep) (done wm rm ag : Nat) : Prop where
  done : ∀ x, done.testBit x = true ↔ ∃ q ∈ pre, q.i = x
  wm : ∀ q ∈ pre, q.isWr = true → wm.testBit q.i = true
  rm : ∀ q ∈ pre, ∀ o, ops[q.i]? = some o → cls o.op = .ro → rm.testBit q.i = true
  ag : ∀ w re, PStep.wr w re ∈ pre → ∀ i ∈ re, ag.testBit i = true

/-- All but what is asked of slots. -/
structure PC' (ops : Array Oper) (pre : List PStep) (p : PStep) : Prop where
  lt : p.i < ops.size
  fresh : ∀ q ∈ pre, q.i ≠ p.i
  preds : ∀ o, ops[p.i]? = some o → ∀ e ∈ o.after, Region.binds .any e = true → ∃ q ∈ pre, q.i = e.on
  wrs : ∀ q ∈ pre, q.isWr = true → Anc ops p.i q.i
  cl : ∀ i, p = .op i → ∀ o, ops[i]? = some o → cls o.op ≠ .wr
  rd : ∀ w re, p = .wr w re → ∀ q ∈ pre, ∀ o, ops[q.i]? = some o → cls o.op = .ro → q.i ∈ re ∨ Anc ops w q.i

theorem stepsK_ok {ops : Array Oper} {t : Tr OI} {k : Nat → Nat → Bool} (ht : ∀ j q, t.get j = some q → ∃ o, ops[j]? = some o ∧ OIOK ops j o q) : ∀ (pl : List PStep) (pre : List PStep) (done wm rm ag : Nat), MI ops pre done wm rm ag → stepsK t pl k done wm rm ag = true →
    ∃ done' wm' rm' ag', k done' ag' = true ∧ MI ops (pre ++ pl) done' wm' rm' ag' ∧ ∀ j p, pl[j]? = some p → PC' ops (pre ++ pl.take j) p
  | [], pre, done, wm, rm, ag, hM, h => ⟨done, wm, rm, ag, h, by simpa using hM, fun j p hp => by simp at hp⟩
  | p :: pl, pre, done, wm, rm, ag, hM, h => by
    have key : ∃ done' wm' rm' ag', stepsK t pl k done' wm' rm' ag' = true ∧ MI ops (pre ++ [p]) done' wm' rm' ag' ∧ PC' ops pre p := by
      have common : ∀ {i : Nat} {q : OI}, p.i = i → t.get i = some q → Nat.testBit done i = false → Nat.beq (Nat.lor done q.a) done = true → Nat.beq (Nat.lor wm q.a) q.a = true →
          (∃ o, ops[i]? = some o ∧ OIOK ops i o q) ∧ p.i < ops.size ∧ (∀ q ∈ pre, q.i ≠ p.i) ∧ (∀ o, ops[p.i]? = some o → ∀ e ∈ o.after, Region.binds .any e = true → ∃ q ∈ pre, q.i = e.on) ∧ (∀ q ∈ pre, q.isWr = true → Anc ops p.i q.i) := by
        intro i q hpi hq h1 h2 h3
        obtain ⟨o, ho, hok⟩ := ht i q hq
        refine ⟨⟨o, ho, hok⟩, by rw [hpi]; exact (Array.getElem?_eq_some_iff.1 ho).1, fun r hr e => ?_, fun o' ho' e he hb => ?_, fun r hr hw => ?_⟩
        · have := (hM.done i).2 ⟨r, hr, e.trans hpi⟩
          rw [h1] at this; cases this
        · rw [hpi, ho] at ho'; cases ho'
          exact (hM.done e.on).1 (sub_mask' h2 (hok.e e he hb))
        · rw [hpi]
          exact hok.a _ (sub_mask h3 (hM.wm r hr hw))
      have hrm : ∀ {i : Nat} {q : OI} {o : Oper}, p.i = i → ops[i]? = some o → OIOK ops i o q → ∀ r ∈ pre ++ [p], ∀ o, ops[r.i]? = some o → cls o.op = .ro → (boolC rm (Nat.lor rm (Nat.pow 2 i)) (Nat.beq q.c 1)).testBit r.i = true := by
        intro i q o hpi ho hok r hr o' ho' hc
        rcases List.mem_append.1 hr with hr | hr
        · have := hM.rm r hr o' ho' hc
          cases Nat.beq q.c 1 with
          | false => exact this
          | true => exact or_pow.2 (.inl this)
        · rw [List.mem_singleton] at hr
          subst hr
          rw [hpi, ho] at ho'; cases ho'
          have : Nat.beq q.c 1 = true := by rw [Nat.beq_eq, hok.c]; exact clsN_ro.2 hc
          rw [this, boolC_true]
          exact or_pow.2 (.inr hpi.symm)
      have hdone : ∀ {i : Nat}, p.i = i → ∀ x, (Nat.lor done (Nat.pow 2 i)).testBit x = true ↔ ∃ q ∈ pre ++ [p], q.i = x := by
        intro i hpi x
        rw [or_pow, hM.done x]
        constructor
        · rintro (⟨q, h1, h2⟩ | h)
          · exact ⟨q, by simp [h1], h2⟩
          · exact ⟨p, by simp, hpi.trans h⟩
        · rintro ⟨q, h1, h2⟩
          rcases List.mem_append.1 h1 with h1 | h1
          · exact .inl ⟨q, h1, h2⟩
          · rw [List.mem_singleton] at h1
            subst h1
            exact .inr (hpi.symm.trans h2)
      cases hp : p with
      | op i =>
        rw [hp] at h
        have h' : getK t i (fun q => boolC (boolC false (boolC false (boolC (forceN (Nat.lor done (Nat.pow 2 i)) fun done' => forceN (boolC rm (Nat.lor rm (Nat.pow 2 i)) (Nat.beq q.c 1)) fun rm' => stepsK t pl k done' wm rm' ag) false (Nat.beq q.c 3)) (Nat.beq (Nat.lor wm q.a) q.a)) (Nat.beq (Nat.lor done q.a) done)) false (Nat.testBit done i)) false = true := h
        obtain ⟨q, hq, h'⟩ := getK_b h'
        obtain ⟨qd, ql, qa, qc⟩ := q
        dsimp only at h'
        obtain ⟨g1, h'⟩ := boolC_tf h'
        obtain ⟨g2, h'⟩ := boolC_ff h'
        obtain ⟨g3, h'⟩ := boolC_ff h'
        obtain ⟨g4, h'⟩ := boolC_tf h'
        rw [forceN_eq, forceN_eq] at h'
        have hpi : p.i = i := by rw [hp]; rfl
        obtain ⟨⟨o, ho, hok⟩, c1, c2, c3, c4⟩ := common hpi hq g1 g2 g3
        rw [← hp]
        refine ⟨_, _, _, _, h', ⟨hdone hpi, fun r hr hw => ?_, hrm hpi ho hok, fun w re hr j hj => ?_⟩, ⟨c1, c2, c3, c4, fun i' hi' o' ho' hc => ?_, fun w re e => ?_⟩⟩
        · rcases List.mem_append.1 hr with hr | hr
          · exact hM.wm r hr hw
          · rw [List.mem_singleton] at hr
            subst hr
            rw [hp] at hw; cases hw
        · rcases List.mem_append.1 hr with hr | hr
          · exact hM.ag w re hr j hj
          · rw [List.mem_singleton, hp] at hr; cases hr
        · rw [hp] at hi'; cases hi'
          rw [ho] at ho'; cases ho'
          have : Nat.beq qc 3 = true := by rw [Nat.beq_eq]; exact hok.c.trans (clsN_wr.2 hc)
          rw [g4] at this; cases this
        · rw [hp] at e; cases e
      | wr i re =>
        rw [hp] at h
        have h' : getK t i (fun q => boolC (boolC false (boolC false (forceN (maskL re q.a) fun am => boolC false (forceN (Nat.lor done (Nat.pow 2 i)) fun done' => forceN (Nat.lor wm (Nat.pow 2 i)) fun wm' => forceN (boolC rm (Nat.lor rm (Nat.pow 2 i)) (Nat.beq q.c 1)) fun rm' => forceN (maskL re ag) fun ag' => stepsK t pl k done' wm' rm' ag') (Nat.beq (Nat.lor rm am) am)) (Nat.beq (Nat.lor wm q.a) q.a)) (Nat.beq (Nat.lor done q.a) done)) false (Nat.testBit done i)) false = true := h
        obtain ⟨q, hq, h'⟩ := getK_b h'
        obtain ⟨qd, ql, qa, qc⟩ := q
        dsimp only at h'
        obtain ⟨g1, h'⟩ := boolC_tf h'
        obtain ⟨g2, h'⟩ := boolC_ff h'
        obtain ⟨g3, h'⟩ := boolC_ff h'
        rw [forceN_eq] at h'
        obtain ⟨g4, h'⟩ := boolC_ff h'
        rw [forceN_eq, forceN_eq, forceN_eq, forceN_eq] at h'
        have hpi : p.i = i := by rw [hp]; rfl
        obtain ⟨⟨o, ho, hok⟩, c1, c2, c3, c4⟩ := common hpi hq g1 g2 g3
        rw [← hp]
        refine ⟨_, _, _, _, h', ⟨hdone hpi, fun r hr hw => ?_, hrm hpi ho hok, fun w re' hr j hj => ?_⟩, ⟨c1, c2, c3, c4, fun i' hi' => ?_, fun w re' e r hr o' ho' hc => ?_⟩⟩
        · rcases List.mem_append.1 hr with hr | hr
          · exact or_pow.2 (.inl (hM.wm r hr hw))
          · rw [List.mem_singleton] at hr
            subst hr
            exact or_pow.2 (.inr hpi.symm)
        · rw [maskL_ok]
          rcases List.mem_append.1 hr with hr | hr
          · exact .inr (hM.ag w re' hr j hj)
          · rw [List.mem_singleton, hp] at hr; cases hr
            exact .inl hj
        · rw [hp] at hi'; cases hi'
        · rw [hp] at e; cases e
          have := sub_mask g4 (hM.rm r hr o' ho' hc)
          rw [maskL_ok] at this
          rcases this with this | this
          · exact .inl this
          · exact .inr (hok.a _ this)
    obtain ⟨done', wm', rm', ag', h1, h2, h3⟩ := key
    obtain ⟨d2, w2, r2, a2, g1, g2, g3⟩ := stepsK_ok ht pl (pre ++ [p]) done' wm' rm' ag' h2 h1
    refine ⟨d2, w2, r2, a2, g1, by simpa using g2, fun j p' hp' => ?_⟩
    cases j with
    | zero => simp at hp'; subst hp'; simpa using h3
    | succ j => have := g3 j p' (by simpa using hp'); simpa using this

theorem lenN_eq {α : Type} : ∀ l : List α, lenN l = l.length
  | [] => rfl
  | _ :: l => congrArg Nat.succ (lenN_eq l)

theorem planB_ok {ops : Array Oper} {pl : List PStep} (h : planB ops pl = true) : PlanOK ops pl := by
  unfold planB at h
  obtain ⟨hsel, h⟩ := boolC_ff h
  rw [forceN_eq, lenN_eq, Array.length_toList] at h
  obtain ⟨t, h, ht, hall⟩ := infoK_ok ops.toList 0 .e (fun j => by simp) (fun j q hq => by rw [Tr.get_e] at hq; cases hq) (fun j o hj => by omega) h
  obtain ⟨hpair, h⟩ := boolC_ff h
  obtain ⟨done, wm, rm, ag, h, hM, hpc⟩ := stepsK_ok ht pl [] 0 0 0 0 ⟨by simp, by simp, by simp, by simp⟩ h
  obtain ⟨hdone, hag⟩ := boolC_ff h
  rw [List.nil_append] at hM
  have hpair' : ∀ (i m : Nat) (o o' : Oper), ops[i]? = some o → ops[m]? = some o' → ∃ q r, OIOK ops i o q ∧ OIOK ops m o' r ∧ (i = m ∨ (Nat.beq (Nat.land q.d r.d) 0 = true ∧ (Nat.beq (Nat.land r.d q.l) 0 = true ∨ q.a.testBit m = true ∨ r.a.testBit i = true))) := by
    intro i m o o' ho ho'
    have hi := (Array.getElem?_eq_some_iff.1 ho).1
    have hm := (Array.getElem?_eq_some_iff.1 ho').1
    have hp := allN_ok (allN_ok hpair i hi) m hm
    unfold pairB at hp
    obtain ⟨q, hq, hp⟩ := getK_b hp
    obtain ⟨r, hr, hp⟩ := getK_b hp
    obtain ⟨o1, ho1, hok1⟩ := ht i q hq
    obtain ⟨o2, ho2, hok2⟩ := ht m r hr
    rw [ho] at ho1; cases ho1
    rw [ho'] at ho2; cases ho2
    obtain ⟨qd, ql, qa, qc⟩ := q
    obtain ⟨rd, rl, ra, rc⟩ := r
    refine ⟨_, _, hok1, hok2, ?_⟩
    rcases orB_ok hp with hp | hp
    · exact .inl (Nat.beq_eq.mp hp)
    · obtain ⟨p1, p2⟩ := boolC_ff hp
      refine .inr ⟨p1, ?_⟩
      rcases orB_ok p2 with p2 | p2
      · exact .inl p2
      · exact .inr (orB_ok p2)
  refine ⟨fun j p hp => ?_, fun i hi => ?_, fun i i' o o' d ho ho' hd hd' => ?_, fun i m o o' d ho ho' hd hl => ?_, hsel⟩
  · have hc := hpc j p hp
    rw [List.nil_append] at hc
    refine ⟨hc.lt, hc.fresh, hc.preds, hc.wrs, hc.cl, hc.rd, fun w re e i hi o m o' d ho ho' hd hl => ?_⟩
    have hin := (Array.getElem?_eq_some_iff.1 ho).1
    have hag' := allN_ok hag i hin
    have hbit := hM.ag w re (by rw [← e]; exact List.mem_of_getElem? hp) i hi
    simp only [hbit] at hag'
    have hag2 : rlookB t ops.size i = true := hag'
    unfold rlookB at hag2
    obtain ⟨q, hq, hag2⟩ := getK_b hag2
    obtain ⟨o1, ho1, hok⟩ := ht i q hq
    rw [ho] at ho1; cases ho1
    obtain ⟨qd, ql, qa, qc⟩ := q
    have h3 := allN_ok hag2 m (Array.getElem?_eq_some_iff.1 ho').1
    obtain ⟨r, hr, h3⟩ := getK_b h3
    obtain ⟨o2, ho2, hok2⟩ := ht m r hr
    rw [ho'] at ho2; cases ho2
    obtain ⟨rd, rl, ra, rc⟩ := r
    rcases orB_ok h3 with h3 | h3
    · exfalso
      have e1 : rd = 2 ^ d := hok2.d.trans (dst_bit hd)
      have e2 : ql = Nat.lor (tmpsM o.op.operands.toList) (guardM ops.toList o) := hok.l
      exact no_meet h3 (by rw [e1]; exact bit_self d) (by rw [e2]; exact looks_mask hl)
    · exact hok.a m h3
  · obtain ⟨q, h1, h2⟩ := (hM.done i).1 (allN_ok hdone i hi)
    obtain ⟨j, hj⟩ := List.getElem?_of_mem h1
    exact ⟨j, q, hj, h2⟩
  · obtain ⟨q, r, h1, h2, h3⟩ := hpair' i i' o o' ho ho'
    rcases h3 with h3 | ⟨h3, _⟩
    · exact h3
    · exfalso
      exact no_meet (t := d) h3 (by rw [h1.d, dst_bit hd]; exact bit_self d) (by rw [h2.d, dst_bit hd']; exact bit_self d)
  · obtain ⟨q, r, h1, h2, h3⟩ := hpair' i m o o' ho ho'
    rcases h3 with h3 | ⟨_, h3 | h3 | h3⟩
    · exact .inl h3.symm
    · exfalso
      exact no_meet (t := d) h3 (by rw [h2.d, dst_bit hd]; exact bit_self d) (by rw [h1.l]; exact looks_mask hl)
    · exact .inr (.inl (h1.a m h3))
    · exact .inr (.inr (h2.a i h3))
end Go.Proofs.YtclljjfkaljdnaaGreatDoor
