/- Regions that draw their order: a plan that the evaluator follows serves every order. No program in sight. -/
import Derived.Test.YtclljjfkaljdnaaGreatDoorE15
namespace Go.Proofs.YtclljjfkaljdnaaGreatDoor
open Go.RowKit

/-- One step, in the evaluator. -/
def OStep (E : Env) (rc : Go') (ops : Array Oper) (o : Oper) (x y : AFr × AH) : Prop :=
  (AWant x.1.slots ops.toList o.guard true ∧ ∃ v, AStep E rc x.1.slots o x.2 v y.2 ∧ APut x.1 o.dst v y.1) ∨ (AWant x.1.slots ops.toList o.guard false ∧ APut x.1 o.dst undefA y.1 ∧ y.2 = x.2)
def AgainOK (E : Env) (ops : Array Oper) (i : Nat) (y : AFr × AH) : Prop :=
  ∃ o, ops[i]? = some o ∧ (AWant y.1.slots ops.toList o.guard false ∨ (AWant y.1.slots ops.toList o.guard true ∧ ∃ v H1, opK E y.1.slots o.op y.2 = .ok (.val v H1) ∧ ∀ t, o.dst = some t → y.1.slots.get t = some v))
def PStepOK (E : Env) (rc : Go') (ops : Array Oper) (p : PStep) (x y : AFr × AH) : Prop :=
  ∃ o, ops[p.i]? = some o ∧ OStep E rc ops o x y ∧ ∀ w re, p = .wr w re → ∀ i ∈ re, AgainOK E ops i y

/-! ### what is the same is the same -/
theorem beqN {a b : Nat} (h : Nat.beq a b = true) : a = b := Nat.beq_eq.mp h
theorem boolC_ff {x y : Bool} (h : boolC false x y = true) : y = true ∧ x = true := by
  cases y with
  | false => cases h
  | true => exact ⟨rfl, h⟩
theorem boolC_bool {x y : Bool} (h : boolC (boolC true false x) x y = true) : y = x := by cases x <;> cases y <;> first | rfl | cases h
theorem eqA1_eq {a b : AV} (h : eqA1 a b = true) : a = b := by
  unfold eqA1 at h
  split at h
  · split at h
    · rfl
    · obtain ⟨h1, h2⟩ := boolC_ff h
      rw [beqN h1, beqN h2]
    · rfl
    · rfl
    · rw [eqS_eq h]
  · obtain ⟨h1, h2⟩ := boolC_ff h
    rw [beqN h1, beqN h2]
  · obtain ⟨h1, h⟩ := boolC_ff h
    obtain ⟨h2, h⟩ := boolC_ff h
    obtain ⟨h3, h⟩ := boolC_ff h
    obtain ⟨h4, h⟩ := boolC_ff h
    obtain ⟨h5, h⟩ := boolC_ff h
    rw [beqN h1, beqN h2, beqN h3, beqN h4, beqN h5, boolC_bool h]
  · rfl
  · rw [beqN h]
  · cases h
theorem eqAL_eq : ∀ {a b : List AV}, eqAL a b = true → a = b
  | [], [], _ => rfl
  | [], _ :: _, h => by cases h
  | _ :: _, [], h => by cases h
  | x :: a, y :: b, h => by
    have h' : boolC false (eqAL a b) (eqA1 x y) = true := h
    obtain ⟨h1, h2⟩ := boolC_ff h'
    rw [eqA1_eq h1, eqAL_eq h2]
theorem eqA_eq {a b : AV} (h : eqA a b = true) : a = b := by
  unfold eqA at h
  split at h
  · rw [eqAL_eq h]
  · rw [eqAL_eq h]
  · exact eqA1_eq h

section
variable {P : Program} {E : Env} {rc : Go'} {w0 : World} {ops : Array Oper}

theorem againK_ok {β : Type} {fr : AFr} {i : Nat} {H : AH} {k : Unit → R β} {q : β} (h : againK E fr ops.toList i H k = .ok q) : AgainOK E ops i (fr, H) ∧ k () = .ok q := by
  unfold againK at h
  replace h := nthK_ok h; obtain ⟨o, ho, h⟩ := h
  have ho' : ops[i]? = some o := by simpa using ho
  rcases wantedK_ok h with ⟨hw, h⟩ | ⟨hw, h⟩
  · split at h
    · rename_i v H1 hop
      cases hd : o.dst with
      | none => rw [hd] at h; exact ⟨⟨o, ho', .inr ⟨hw, v, H1, hop, fun t e => by rw [hd] at e; cases e⟩⟩, h⟩
      | some t =>
        rw [hd] at h
        dsimp only at h
        replace h := getK_ok h; obtain ⟨u, hu, h⟩ := h
        replace h := boolC_er h; obtain ⟨he, h⟩ := h
        have := eqA_eq he
        subst this
        exact ⟨⟨o, ho', .inr ⟨hw, u, H1, hop, fun t' e => by rw [hd] at e; cases e; exact hu⟩⟩, h⟩
    · cases h
  · exact ⟨⟨o, ho', .inl hw⟩, h⟩
theorem againL_ok {β : Type} {fr : AFr} {H : AH} {k : Unit → R β} {q : β} : ∀ {l : List Nat}, againL E fr ops.toList l H k = .ok q → (∀ i ∈ l, AgainOK E ops i (fr, H)) ∧ k () = .ok q
  | [], h => ⟨by simp, h⟩
  | i :: l, h => by
    have h' : againK E fr ops.toList i H (fun _ => againL E fr ops.toList l H k) = .ok q := h
    obtain ⟨h1, h2⟩ := againK_ok h'
    obtain ⟨h3, h4⟩ := againL_ok (l := l) h2
    exact ⟨fun j hj => by rcases List.mem_cons.1 hj with rfl | hj; exact h1; exact h3 j hj, h4⟩
theorem ostep_of {β : Type} {fr : AFr} {o : Oper} {H : AH} {k : AFr → AH → R β} {q : β} (h : operK E rc fr ops.toList o H k = .ok q) : ∃ y : AFr × AH, OStep E rc ops o (fr, H) y ∧ k y.1 y.2 = .ok q := by
  rcases operK_ok h with ⟨hw, v, H', fr', h1, h2, h3⟩ | ⟨hw, fr', h1, h2⟩
  · exact ⟨(fr', H'), .inl ⟨hw, v, h1, h2⟩, h3⟩
  · exact ⟨(fr', H), .inr ⟨hw, h1, rfl⟩, h2⟩
/-- The states that the evaluator goes through. -/
theorem planK_trace {β : Type} {k : AFr → AH → R β} {q : β} : ∀ {pl : List PStep} {fr : AFr} {H : AH}, planK E rc ops.toList pl k fr H = .ok q →
    ∃ S : Nat → AFr × AH, S 0 = (fr, H) ∧ k (S pl.length).1 (S pl.length).2 = .ok q ∧ ∀ j p, pl[j]? = some p → PStepOK E rc ops p (S j) (S (j + 1))
  | [], fr, H, h => ⟨fun _ => (fr, H), rfl, h, fun j p hp => by simp at hp⟩
  | p :: pl, fr, H, h => by
    have key : ∃ y : AFr × AH, PStepOK E rc ops p (fr, H) y ∧ planK E rc ops.toList pl k y.1 y.2 = .ok q := by
      cases p with
      | op i =>
        have h' : nthK ops.toList i (fun o => operK E rc fr ops.toList o H (planK E rc ops.toList pl k)) (.er [127]) = .ok q := h
        obtain ⟨o, ho, h1⟩ := nthK_ok h'
        obtain ⟨y, h2, h3⟩ := ostep_of h1
        exact ⟨y, ⟨o, by simpa [PStep.i] using ho, h2, fun w re e => by cases e⟩, h3⟩
      | wr i re =>
        have h' : nthK ops.toList i (fun o => operK E rc fr ops.toList o H fun fr' H' => againL E fr' ops.toList re H' fun _ => planK E rc ops.toList pl k fr' H') (.er [128]) = .ok q := h
        obtain ⟨o, ho, h1⟩ := nthK_ok h'
        obtain ⟨y, h2, h3⟩ := ostep_of h1
        obtain ⟨h4, h5⟩ := againL_ok h3
        exact ⟨y, ⟨o, by simpa [PStep.i] using ho, h2, fun w re' e => by cases e; exact h4⟩, h5⟩
    obtain ⟨y, hy, h1⟩ := key
    obtain ⟨S, hS0, hSn, hS⟩ := planK_trace (pl := pl) h1
    refine ⟨fun j => match j with | 0 => (fr, H) | j + 1 => S j, rfl, hSn, fun j p' hp => ?_⟩
    cases j with
    | zero =>
      simp at hp; subst hp
      show PStepOK E rc ops p (fr, H) (S 0)
      rw [hS0]; exact hy
    | succ j => exact hS j p' (by simpa using hp)

/-! ### plans -/
variable {pl : List PStep} {S : Nat → AFr × AH}

theorem mem_take {p : PStep} {j : Nat} : p ∈ pl.take j ↔ ∃ j', j' < j ∧ pl[j']? = some p := by
  constructor
  · intro h
    obtain ⟨n, hn⟩ := List.getElem?_of_mem h
    rw [List.getElem?_take] at hn
    split at hn
    · exact ⟨n, by assumption, hn⟩
    · cases hn
  · rintro ⟨j', h1, h2⟩
    exact List.mem_of_getElem? (i := j') (by rw [List.getElem?_take, if_pos h1]; exact h2)
theorem PlanOK.pos (PO : PlanOK ops pl) {j j' : Nat} {p p' : PStep} (h : pl[j]? = some p) (h' : pl[j']? = some p') (e : p.i = p'.i) : j = j' := by
  rcases Nat.lt_trichotomy j j' with hlt | heq | hlt
  · exact absurd e ((PO.pc j' p' h').fresh p (mem_take.2 ⟨j, hlt, h⟩))
  · exact heq
  · exact absurd e.symm ((PO.pc j p h).fresh p' (mem_take.2 ⟨j', hlt, h'⟩))
theorem PlanOK.anc_pos (PO : PlanOK ops pl) {i m : Nat} (h : Anc ops i m) : ∀ {j : Nat} {p : PStep}, pl[j]? = some p → p.i = i → ∃ j' p', j' < j ∧ pl[j']? = some p' ∧ p'.i = m := by
  induction h with
  | edge ho he hb hm =>
    intro j p hp hi
    obtain ⟨q, hq, hqi⟩ := (PO.pc j p hp).preds _ (by rw [hi]; exact ho) _ he hb
    obtain ⟨j', h1, h2⟩ := mem_take.1 hq
    exact ⟨j', q, h1, h2, hqi.trans hm⟩
  | step ho he hb hm _ ih =>
    intro j p hp hi
    obtain ⟨q, hq, hqi⟩ := (PO.pc j p hp).preds _ (by rw [hi]; exact ho) _ he hb
    obtain ⟨j', h1, h2⟩ := mem_take.1 hq
    obtain ⟨j2, p2, h3, h4, h5⟩ := ih h2 (hqi.trans hm)
    exact ⟨j2, p2, Nat.lt_trans h3 h1, h4, h5⟩

/-- What is done is done behind all that it waits for. -/
def Closed (ops : Array Oper) (D : Nat → Bool) : Prop := ∀ i o, ops[i]? = some o → D i = true → ∀ e ∈ o.after, Region.binds .any e = true → D e.on = true
theorem Closed.anc {D : Nat → Bool} (h : Closed ops D) {i m : Nat} (ha : Anc ops i m) : D i = true → D m = true := by
  induction ha with
  | edge ho he hb hm => intro hi; rw [← hm]; exact h _ _ ho hi _ he hb
  | step ho he hb hm _ ih => intro hi; exact ih (by rw [← hm]; exact h _ _ ho hi _ he hb)
theorem Closed.ready {D : Nat → Bool} (h : Closed ops D) {i m : Nat} (ha : Anc ops i m) {o : Oper} (ho : ops[i]? = some o) (hr : ∀ e ∈ o.after, Region.binds .any e = true → D e.on = true) : D m = true := by
  cases ha with
  | edge ho' he hb hm => rw [ho] at ho'; cases ho'; rw [← hm]; exact hr _ he hb
  | step ho' he hb hm ha => rw [ho] at ho'; cases ho'; exact h.anc ha (by rw [← hm]; exact hr _ he hb)

def Steps' (E : Env) (rc : Go') (ops : Array Oper) (pl : List PStep) (S : Nat → AFr × AH) : Prop := ∀ j p, pl[j]? = some p → PStepOK E rc ops p (S j) (S (j + 1))
theorem OStep.put {o : Oper} {x y : AFr × AH} (h : OStep E rc ops o x y) : ∃ v, APut x.1 o.dst v y.1 := by
  rcases h with ⟨_, v, _, h⟩ | ⟨_, h, _⟩
  · exact ⟨v, h⟩
  · exact ⟨_, h⟩
theorem same_frame (hS : Steps' E rc ops pl S) : ∀ j, j ≤ pl.length → (S j).1.size = (S 0).1.size ∧ (S j).1.marks = (S 0).1.marks ∧ (S j).1.round = (S 0).1.round ∧ (S j).1.fn = (S 0).1.fn := by
  intro j
  induction j with
  | zero => intro _; exact ⟨rfl, rfl, rfl, rfl⟩
  | succ j ih =>
    intro hj
    obtain ⟨h1, h2, h3, h4⟩ := ih (by omega)
    obtain ⟨o, _, hst, _⟩ := hS j _ (List.getElem?_eq_getElem (by omega))
    obtain ⟨v, hp⟩ := hst.put
    exact ⟨hp.size.trans h1, hp.marks.trans h2, hp.round.trans h3, hp.fn.trans h4⟩
/-- A slot that nobody writes between stays. -/
theorem slot_stays (hS : Steps' E rc ops pl S) {t : Tmp} {j : Nat} : ∀ j', j ≤ j' → j' ≤ pl.length → (∀ l p o, j ≤ l → l < j' → pl[l]? = some p → ops[p.i]? = some o → o.dst ≠ some t) → (S j').1.slots.get t = (S j).1.slots.get t := by
  intro j'
  induction j' with
  | zero => intro h _ _; have : j = 0 := by omega
            rw [this]
  | succ j' ih =>
    intro h1 h2 h3
    by_cases e : j = j' + 1
    · rw [e]
    · rw [← ih (by omega) (by omega) (fun l p o a b => h3 l p o a (by omega))]
      have hp := List.getElem?_eq_getElem (show j' < pl.length by omega)
      obtain ⟨o, ho, hst, _⟩ := hS j' _ hp
      obtain ⟨v, hput⟩ := hst.put
      rw [hput.get, if_neg (h3 j' _ o (by omega) (by omega) hp ho)]
theorem PlanOK.written (PO : PlanOK ops pl) (hS : Steps' E rc ops pl S) {m jm : Nat} {pm : PStep} {om : Oper} {t : Tmp} (hp : pl[jm]? = some pm) (hm : pm.i = m) (ho : ops[m]? = some om) (hd : om.dst = some t) :
    (∀ j, jm < j → j ≤ pl.length → (S j).1.slots.get t = (S (jm + 1)).1.slots.get t) ∧ (∀ j, j ≤ jm → (S j).1.slots.get t = (S 0).1.slots.get t) := by
  have hlt : jm < pl.length := (List.getElem?_eq_some_iff.1 hp).1
  have only : ∀ l p o, pl[l]? = some p → ops[p.i]? = some o → o.dst = some t → l = jm := by
    intro l p o h1 h2 h3
    have := PO.dst1 _ _ _ _ _ h2 ho h3 hd
    exact PO.pos h1 hp (by rw [this, hm])
  constructor
  · intro j h1 h2
    refine slot_stays hS j (by omega) h2 fun l p o a b c d e => ?_
    have := only l p o c d e; omega
  · intro j h1
    refine slot_stays hS j (by omega) (by omega) fun l p o a b c d e => ?_
    have := only l p o c d e; omega
theorem unwritten (hS : Steps' E rc ops pl S) {t : Tmp} (h : ∀ (m : Nat) (om : Oper), ops[m]? = some om → om.dst ≠ some t) (j : Nat) (hj : j ≤ pl.length) : (S j).1.slots.get t = (S 0).1.slots.get t :=
  slot_stays hS j (by omega) hj fun l p o _ _ _ d => h _ _ d

/-! ### heaps between two writers -/
theorem op_heap (EO : EnvOK P E) {o : Oper} {x y : AFr × AH} (h : OStep E rc ops o x y) (hc : cls o.op ≠ .wr) : y.2 = x.2 ∨ ∃ ob, Added x.2 ob y.2 := by
  rcases h with ⟨_, v, hs, _⟩ | ⟨_, _, e⟩
  · rcases hs with hs | ⟨f, args, H1, hs, _⟩ | ⟨l, args, H1, hs, _⟩
    · have := op_cls EO hs
      cases hcl : cls o.op <;> rw [hcl] at this
      · obtain ⟨av, e, _⟩ := this; exact .inl (ARes.val.inj e).2
      · obtain ⟨av, e, _⟩ := this; exact .inl (ARes.val.inj e).2
      · obtain ⟨av, ob, H', e, hA, _⟩ := this; rw [(ARes.val.inj e).2]; exact .inr ⟨ob, hA⟩
      · exact absurd hcl hc
    · have := op_cls EO hs
      cases hcl : cls o.op <;> rw [hcl] at this
      · obtain ⟨av, e, _⟩ := this; cases e
      · obtain ⟨av, e, _⟩ := this; cases e
      · obtain ⟨av, ob, H', e, hA, _⟩ := this; cases e
      · exact absurd hcl hc
    · have := op_cls EO hs
      cases hcl : cls o.op <;> rw [hcl] at this
      · obtain ⟨av, e, _⟩ := this; cases e
      · obtain ⟨av, e, _⟩ := this; cases e
      · obtain ⟨av, ob, H', e, hA, _⟩ := this; cases e
      · exact absurd hcl hc
  · exact .inl e
/-- What is between two writers only adds objects. -/
structure Grew (H H' : AH) : Prop where
  next : H.next ≤ H'.next
  get : ∀ id, id < H.next → H'.t.get id = H.t.get id
theorem Grew.refl (H : AH) : Grew H H := ⟨Nat.le_refl _, fun _ _ => rfl⟩
theorem Grew.trans {H H1 H2 : AH} (h : Grew H H1) (h2 : Grew H1 H2) : Grew H H2 :=
  ⟨Nat.le_trans h.next h2.next, fun id hid => (h2.get id (Nat.lt_of_lt_of_le hid h.next)).trans (h.get id hid)⟩
theorem Grew.of_added {H H' : AH} {ob : AO} (h : Added H ob H') : Grew H H' := ⟨by rw [h.1]; omega, fun id hid => by rw [h.2, if_neg (Nat.ne_of_lt hid)]⟩
def NoWr (pl : List PStep) (j j' : Nat) : Prop := ∀ l p, j ≤ l → l < j' → pl[l]? = some p → p.isWr = false
theorem between (EO : EnvOK P E) (PO : PlanOK ops pl) (hS : Steps' E rc ops pl S) {j : Nat} : ∀ j', j ≤ j' → j' ≤ pl.length → NoWr pl j j' → Grew (S j).2 (S j').2 ∧ ∀ ρ w, HR E w0 ρ (S j).2 w → HR E w0 ρ (S j').2 w := by
  intro j'
  induction j' with
  | zero => intro h _ _; have : j = 0 := by omega
            subst this; exact ⟨Grew.refl _, fun _ _ h => h⟩
  | succ j' ih =>
    intro h1 h2 h3
    by_cases e : j = j' + 1
    · subst e; exact ⟨Grew.refl _, fun _ _ h => h⟩
    · obtain ⟨g1, g2⟩ := ih (by omega) (by omega) (fun l p a b => h3 l p a (by omega))
      have hp := List.getElem?_eq_getElem (show j' < pl.length by omega)
      obtain ⟨o, ho, hst, _⟩ := hS j' _ hp
      have hnw := h3 j' _ (by omega) (by omega) hp
      have hcl : cls o.op ≠ .wr := by
        cases hpl : pl[j'] with
        | op i => rw [hpl] at ho hp; exact (PO.pc j' _ hp).cl i rfl o ho
        | wr i re => rw [hpl] at hnw; cases hnw
      rcases op_heap EO hst hcl with e2 | ⟨ob, hA⟩
      · rw [e2]; exact ⟨g1, g2⟩
      · exact ⟨g1.trans (.of_added hA), fun ρ w h => (g2 ρ w h).added hA⟩
theorem next_wr (pl : List PStep) : ∀ (d m : Nat), m + d = pl.length → ∃ k, m ≤ k ∧ k ≤ pl.length ∧ NoWr pl m k ∧ (k = pl.length ∨ ∃ p, pl[k]? = some p ∧ p.isWr = true)
  | 0, m, h => ⟨m, Nat.le_refl _, by omega, fun l p a b => by omega, .inl (by omega)⟩
  | d + 1, m, h => by
    have hm : m < pl.length := by omega
    cases hw : pl[m].isWr with
    | true => exact ⟨m, Nat.le_refl _, by omega, fun l p a b => by omega, .inr ⟨_, List.getElem?_eq_getElem hm, hw⟩⟩
    | false =>
      obtain ⟨k, h1, h2, h3, h4⟩ := next_wr pl d (m + 1) (by omega)
      refine ⟨k, by omega, h2, fun l p a b c => ?_, h4⟩
      by_cases e : l = m
      · subst e
        rw [List.getElem?_eq_getElem hm] at c
        cases c; exact hw
      · exact h3 l p (by omega) b c
end
end Go.Proofs.YtclljjfkaljdnaaGreatDoor
