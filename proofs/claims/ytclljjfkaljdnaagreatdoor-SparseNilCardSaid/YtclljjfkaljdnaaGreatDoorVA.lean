/- The evaluator with higher limits comes to the same: a run that ends ends so under every higher limit. No program in sight. Tries, cells and heaps of the evaluator as total functions, with their laws. No program in sight. The weakest preconditions of the evaluator: what is still to be done stands as a list. No program in sight. The weakest preconditions of the evaluator, operation by operation; calls. No program in sight. -/
import Derived.Test.YtclljjfkaljdnaaGreatDoorEK
namespace Go.Proofs.YtclljjfkaljdnaaGreatDoor
open Go.RowKit

/-- The tables with another limit. -/
def Env.at (E : Env) (n : Nat) : Env := { E with lim := n }

theorem opK_at (E : Env) (n : Nat) (fr : Tr AV) (o : Op) (H : AH) : opK (E.at n) fr o H = opK E fr o H := by cases E; rfl
theorem hookK_at (E : Env) (n : Nat) (h : Nat) (args : List AV) (H : AH) : hookK (E.at n) h args H = hookK E h args H := by cases E; rfl

/-- Calls: what the one yields the other one yields. -/
def RcLe (a b : Go') : Prop := ∀ t H q, a t H = .ok q → b t H = .ok q
def LeT (A B : AFr → AH → St) : Prop := ∀ fr H q, A fr H = .ok q → B fr H = .ok q

section
variable {E : Env} {n m : Nat} {rc rc' : Go'}
theorem operK_m {β γ : Type} {kk : γ → R β} (hr : RcLe rc rc') {fr : AFr} {ops : List Oper} {o : Oper} {H : AH} {k : AFr → AH → R β} {K : AFr → AH → R γ} (h : ∀ x y, Le kk (k x y) (K x y)) :
    Le kk (operK (E.at n) rc fr ops o H k) (operK (E.at m) rc' fr ops o H K) := by
  unfold operK
  refine wantedK_r (fun _ => ?_) (fun _ => dstK_r fun _ => h _ _)
  rw [opK_at, opK_at]
  cases opK E fr.slots o.op H with
  | er l => exact Le.er
  | ok r =>
    cases r with
    | val v H' => exact dstK_r (fun _ => h _ _)
    | call f args H' =>
      dsimp only
      cases hc : rc (.call f args) H' with
      | er l => exact Le.er
      | ok p => rw [hr _ _ _ hc]; obtain ⟨v, H''⟩ := p; exact dstK_r (fun _ => h _ _)
    | round l args H' =>
      dsimp only
      cases hc : rc (.round l args) H' with
      | er l => exact Le.er
      | ok p => rw [hr _ _ _ hc]; obtain ⟨v, H''⟩ := p; exact dstK_r (fun _ => h _ _)
theorem opsK_m {β γ : Type} {kk : γ → R β} (hr : RcLe rc rc') {ops l : List Oper} {fr : AFr} {H : AH} {k : AFr → AH → R β} {K : AFr → AH → R γ} (h : ∀ x y, Le kk (k x y) (K x y)) :
    Le kk (opsK (E.at n) rc ops l k fr H) (opsK (E.at m) rc' ops l K fr H) := by
  unfold opsK
  induction l generalizing fr H with
  | nil => exact h _ _
  | cons o l ih =>
    rw [listR_cons, listR_cons]
    exact operK_m hr fun fr' H' => ih (fr := fr') (H := H')
theorem againK_m {β γ : Type} {kk : γ → R β} {fr : AFr} {ops : List Oper} {i : Nat} {H : AH} {k : Unit → R β} {K : Unit → R γ} (h : ∀ u, Le kk (k u) (K u)) :
    Le kk (againK (E.at n) fr ops i H k) (againK (E.at m) fr ops i H K) := by
  unfold againK
  refine nthK_r (fun o => wantedK_r (fun _ => ?_) h) Le.er
  rw [opK_at, opK_at]
  cases opK E fr.slots o.op H with
  | er l => exact Le.er
  | ok r =>
    cases r with
    | val v H' =>
      dsimp only
      cases o.dst with
      | none => exact h ()
      | some t => exact getK_r (fun u => boolC_r Le.er (h ())) Le.er
    | call f args H' => exact Le.er
    | round l args H' => exact Le.er
theorem againL_m {β γ : Type} {kk : γ → R β} {fr : AFr} {ops : List Oper} {l : List Nat} {H : AH} {k : Unit → R β} {K : Unit → R γ} (h : ∀ u, Le kk (k u) (K u)) :
    Le kk (againL (E.at n) fr ops l H k) (againL (E.at m) fr ops l H K) := by
  unfold againL
  induction l with
  | nil => exact h _
  | cons i l ih =>
    rw [listR_cons, listR_cons]
    exact againK_m fun _ => ih
theorem planK_m {β γ : Type} {kk : γ → R β} (hr : RcLe rc rc') {ops : List Oper} {l : List PStep} {fr : AFr} {H : AH} {k : AFr → AH → R β} {K : AFr → AH → R γ} (h : ∀ x y, Le kk (k x y) (K x y)) :
    Le kk (planK (E.at n) rc ops l k fr H) (planK (E.at m) rc' ops l K fr H) := by
  unfold planK
  induction l generalizing fr H with
  | nil => exact h _ _
  | cons p l ih =>
    rw [listR_cons, listR_cons]
    cases p with
    | op i => exact nthK_r (fun o => operK_m hr fun fr' H' => ih (fr := fr') (H := H')) Le.er
    | wr i re => exact nthK_r (fun o => operK_m hr fun fr' H' => againL_m fun _ => ih (fr := fr') (H := H')) Le.er

theorem le_same {β : Type} {a b : R β} (h : Le R.ok a b) {q : β} (hq : a = .ok q) : b = .ok q := by
  obtain ⟨x, h1, h2⟩ := h.out q hq
  cases h2; exact h1
theorem le_refl {β : Type} (a : R β) : Le R.ok a a := ⟨fun q h => ⟨q, h, rfl⟩⟩

theorem seqS_m {a b A B : AFr → AH → St} (ha : LeT a A) (hb : LeT b B) : LeT (seqS a b) (seqS A B) := by
  intro fr H q hq
  unfold seqS at hq ⊢
  cases hx : a fr H with
  | er l => rw [hx] at hq; cases hq
  | ok r =>
    rw [hx] at hq
    rw [ha _ _ _ hx]
    obtain ⟨ex, fr', H'⟩ := r
    cases ex with
    | normal => exact hb _ _ _ hq
    | exit j => exact hq
    | ret => exact hq
theorem condS_m {x : Operand} {a b A B : AFr → AH → St} (ha : LeT a A) (hb : LeT b B) : LeT (condS (E.at n) x a b) (condS (E.at m) x A B) := by
  intro fr H q hq
  refine le_same (a := condS (E.at n) x a b fr H) ?_ hq
  unfold condS
  refine evK_r (E := E) fun v => ?_
  split
  · exact boolC_r ⟨fun q h => ⟨q, hb _ _ _ h, rfl⟩⟩ ⟨fun q h => ⟨q, ha _ _ _ h, rfl⟩⟩
  · exact Le.er
theorem blockS_m {id : Nat} {a A : AFr → AH → St} (ha : LeT a A) : LeT (blockS id a) (blockS id A) := by
  intro fr H q hq
  unfold blockS at hq ⊢
  cases hx : a fr H with
  | er l => rw [hx] at hq; cases hq
  | ok r => rw [hx] at hq; rw [ha _ _ _ hx]; exact hq
theorem loopS_m {a A : AFr → AH → St} (hnm : n ≤ m) (ha : LeT a A) : LeT (loopS (E.at n) a) (loopS (E.at m) A) := by
  have key : ∀ (n m : Nat), n ≤ m → ∀ fr H q, loopN a n fr H = .ok q → loopN A m fr H = .ok q := by
    intro n
    induction n with
    | zero => intro m _ fr H q h; cases h
    | succ n ih =>
      intro m hm fr H q h
      cases m with
      | zero => omega
      | succ m =>
        obtain ⟨ex, fr', H', hx, hc⟩ := loopN_succ h
        show (match A fr H with
          | .er l => .er l
          | .ok r => match r with
            | (.normal, fr', H') => loopN A m fr' H'
            | r => .ok r) = (.ok q : St)
        rw [ha _ _ _ hx]
        rcases hc with ⟨rfl, h2⟩ | ⟨h1, h2⟩
        · exact ih m (by omega) _ _ _ h2
        · subst h2
          cases ex with
          | normal => exact absurd rfl h1
          | exit j => rfl
          | ret => rfl
  intro fr H q hq
  exact key n m hnm fr H q hq
theorem rangeS_m (hr : RcLe rc rc') {g : Operand} {ps : List Tmp} {as bd : Code} : LeT (rangeS (E.at n) rc g ps as bd) (rangeS (E.at m) rc' g ps as bd) := by
  intro fr H q hq
  refine le_same (a := rangeS (E.at n) rc g ps as bd fr H) ?_ hq
  unfold rangeS
  refine evK_r (E := E) fun gv => enterS_r fun l fr' H1 => ?_
  cases callK gv [.fn (.yield l) [] []] H1 with
  | er l => exact Le.er
  | ok r =>
    cases r with
    | val v H' => exact Le.er
    | round l args H' => exact Le.er
    | call f args H2 =>
      dsimp only
      cases hc : rc (.call f args) H2 with
      | er l => exact Le.er
      | ok p => rw [hr _ _ _ hc]; exact le_refl _
theorem leafS_m (hr : RcLe rc rc') {c : Code} : LeT (leafS (E.at n) rc c) (leafS (E.at m) rc' c) := by
  intro fr H q hq
  refine le_same (a := leafS (E.at n) rc c fr H) ?_ hq
  unfold leafS
  cases c with
  | skip => exact le_refl _
  | ret => exact le_refl _
  | exit id => exact le_refl _
  | region id ops d =>
    exact boolC_r (opsK_m hr fun fr' H' => le_refl _) (getK_r (fun tb => getK_r (fun pl => planK_m hr fun fr' H' => le_refl _) Le.er) Le.er)
  | rangeFunc g ps as bd =>
    exact ⟨fun q h => ⟨q, rangeS_m (E := E) hr fr H q h, rfl⟩⟩
  | _ => exact Le.er
theorem codeS_m (hnm : n ≤ m) (hr : RcLe rc rc') (c : Code) : LeT (codeS (E.at n) rc c) (codeS (E.at m) rc' c) := by
  induction c with
  | seq a b iha ihb => exact seqS_m iha ihb
  | cond x a b iha ihb => exact condS_m (E := E) iha ihb
  | block id a ih => exact blockS_m ih
  | loop a ih =>
    have e1 : codeS (E.at n) rc (.loop a) = loopS (E.at n) (codeS (E.at n) rc a) := by kernel_rfl
    have e2 : codeS (E.at m) rc' (.loop a) = loopS (E.at m) (codeS (E.at m) rc' a) := by kernel_rfl
    rw [e1, e2]; exact loopS_m (E := E) hnm ih
  | skip => exact leafS_m (E := E) (n := n) (m := m) hr (c := .skip)
  | region id ops d => exact leafS_m (E := E) (n := n) (m := m) hr (c := .region id ops d)
  | rangeFunc f ps as bd _ _ => exact leafS_m (E := E) (n := n) (m := m) hr (c := .rangeFunc f ps as bd)
  | exit id => exact leafS_m (E := E) (n := n) (m := m) hr (c := .exit id)
  | scope c _ => exact leafS_m (E := E) (n := n) (m := m) hr (c := .scope c)
  | label l => exact leafS_m (E := E) (n := n) (m := m) hr (c := .label l)
  | goto l => exact leafS_m (E := E) (n := n) (m := m) hr (c := .goto l)
  | ret => exact leafS_m (E := E) (n := n) (m := m) hr (c := .ret)
  | refuse w => exact leafS_m (E := E) (n := n) (m := m) hr (c := .refuse w)
theorem bodyS_m (hnm : n ≤ m) (hr : RcLe rc rc') {f : FuncId} {args : List AV} {H : AH} : Le R.ok (bodyS (E.at n) rc f args H) (bodyS (E.at m) rc' f args H) := by
  unfold bodyS
  refine getK_r (fun fn => ?_) Le.er
  cases fn.body with
  | none => exact Le.er
  | some c =>
    dsimp only
    refine slotsK_r fun n' s => forceN_r fun n'' => ?_
    cases hc : codeS (E.at n) rc c ⟨s, n'', [], none, f⟩ H with
    | er l => exact Le.er
    | ok r =>
      rw [codeS_m hnm hr c _ _ _ hc]
      exact le_refl _
theorem roundS_m (hnm : n ≤ m) (hr : RcLe rc rc') {l : Nat} {args : List AV} {H : AH} : Le R.ok (roundS (E.at n) rc l args H) (roundS (E.at m) rc' l args H) := by
  unfold roundS
  refine objK_r fun o => ?_
  cases o with
  | loop st pend f n0 s ps as bd0 d =>
    cases st with
    | ready =>
      refine setPs_r fun s1 => ?_
      cases hc : codeS (E.at n) rc as ⟨s1, n0, [], some l, f⟩ H with
      | er l => exact Le.er
      | ok r =>
        rw [codeS_m hnm hr as _ _ _ hc]
        obtain ⟨ex, fr, H1⟩ := r
        cases ex with
        | exit j => exact Le.er
        | ret => exact Le.er
        | normal =>
          refine objK_r fun o => ?_
          cases o with
          | loop st pend f n0 s ps as bd d =>
            cases st with
            | ready =>
              refine updK_r fun H2 => ?_
              cases hc : codeS (E.at n) rc bd0 fr H2 with
              | er l => exact Le.er
              | ok r => rw [codeS_m hnm hr bd0 _ _ _ hc]; exact le_refl _
            | _ => exact Le.er
          | _ => exact Le.er
    | _ => exact Le.er
  | _ => exact Le.er
end

/-- The evaluator under one limit of depth and of loops. -/
noncomputable def runAt (E : Env) (n : Nat) : Go' := goK (E.at n) n
theorem goK_succ (E : Env) (n : Nat) (t : Task) (H : AH) : goK E (n + 1) t H = (match t with
    | .call f args => getK E.hk f (fun h => natC (bodyS E (goK E n) f args H) (fun h' => natC (bodyS E (goK E n) f args H) (fun _ => hookK E h args H) h') h) (bodyS E (goK E n) f args H)
    | .round l args => roundS E (goK E n) l args H) := rfl
theorem goK_m {E : Env} {a b : Nat} (hab : a ≤ b) : ∀ (n m : Nat), n ≤ m → RcLe (goK (E.at a) n) (goK (E.at b) m)
  | 0, _, _ => fun _ _ _ h => by cases h
  | n + 1, 0, h => by omega
  | n + 1, m + 1, h => by
    have ih := goK_m (E := E) hab n m (by omega)
    intro t H q hq
    refine le_same (a := goK (E.at a) (n + 1) t H) ?_ hq
    rw [goK_succ, goK_succ]
    cases t with
    | call f args =>
      refine getK_r (fun h => natC_r (bodyS_m hab ih) fun h' => natC_r (bodyS_m hab ih) fun _ => ?_) (bodyS_m hab ih)
      rw [hookK_at, hookK_at]; exact le_refl _
    | round l args => exact roundS_m hab ih
theorem runAt_le {E : Env} {n m : Nat} (h : n ≤ m) : RcLe (runAt E n) (runAt E m) := goK_m h n m h
end Go.Proofs.YtclljjfkaljdnaaGreatDoor
namespace Go.Proofs.YtclljjfkaljdnaaGreatDoor
open Go.RowKit

/-! ### tries -/
theorem Tr.set_some {α : Type} : ∀ (f : Nat) (t : Tr α) (k : Nat) (v : Option α), k + 1 < 2 ^ f → ∃ t', t.set f k v = some t' := by
  intro f
  induction f with
  | zero => intro t k v h; simp at h
  | succ f ih =>
    intro t k v h
    cases k with
    | zero => exact ⟨_, rfl⟩
    | succ k =>
      have hk : k / 2 + 1 < 2 ^ f := by
        have : 2 ^ (f + 1) = 2 * 2 ^ f := by rw [Nat.pow_succ]; omega
        omega
      simp only [Tr.set]
      by_cases hp : k % 2 = 0
      · obtain ⟨l, hl⟩ := ih t.left (k / 2) v hk
        simp only [hp, if_true, hl, Option.map_some]; exact ⟨_, rfl⟩
      · obtain ⟨r, hr⟩ := ih t.right (k / 2) v hk
        simp only [hp, if_false, hr, Option.map_some]; exact ⟨_, rfl⟩
theorem Tr.set_fuel {α : Type} : ∀ (f g : Nat) (t t' : Tr α) (k : Nat) (v : Option α), t.set f k v = some t' → f ≤ g → t.set g k v = some t' := by
  intro f
  induction f with
  | zero => intro g t t' k v h; cases h
  | succ f ih =>
    intro g t t' k v h hg
    cases g with
    | zero => omega
    | succ g =>
      cases k with
      | zero => exact h
      | succ k =>
        simp only [Tr.set] at h ⊢
        by_cases hp : k % 2 = 0
        · simp only [hp, if_true, Option.map_eq_some_iff] at h ⊢
          obtain ⟨l, h1, h2⟩ := h
          exact ⟨l, ih g _ _ _ _ h1 (by omega), h2⟩
        · simp only [hp, if_false, Option.map_eq_some_iff] at h ⊢
          obtain ⟨l, h1, h2⟩ := h
          exact ⟨l, ih g _ _ _ _ h1 (by omega), h2⟩
/-- A trie with another thing at a place. -/
noncomputable def Tr.put {α : Type} (t : Tr α) (k : Nat) (v : Option α) : Tr α := (t.set (k + 1) k v).getD .e
theorem lt_pow2 (k : Nat) : k + 1 < 2 ^ (k + 1) ∨ k = 0 := by
  induction k with
  | zero => exact .inr rfl
  | succ k ih =>
    rw [Nat.pow_succ]
    rcases ih with h | h
    · exact .inl (by omega)
    · subst h; exact .inl (by decide)
theorem Tr.set_put1 {α : Type} (t : Tr α) (k : Nat) (v : Option α) : t.set (k + 1) k v = some (t.put k v) := by
  unfold Tr.put
  rcases lt_pow2 k with h | h
  · obtain ⟨t', h'⟩ := Tr.set_some (k + 1) t k v h
    rw [h']; rfl
  · subst h; rfl
theorem Tr.set_put {α : Type} {f : Nat} (t : Tr α) (k : Nat) (v : Option α) (h : k + 1 < 2 ^ f) : t.set f k v = some (t.put k v) := by
  obtain ⟨t', h'⟩ := Tr.set_some f t k v h
  have h1 := Tr.set_fuel _ (max f (k + 1)) _ _ _ _ h' (Nat.le_max_left _ _)
  have h2 := Tr.set_fuel _ (max f (k + 1)) _ _ _ _ (Tr.set_put1 t k v) (Nat.le_max_right _ _)
  rw [h1] at h2
  rw [h', h2]
theorem Tr.set_is_put {α : Type} {f : Nat} {t : Tr α} {k : Nat} {v : Option α} (h : (t.set f k v).isSome = true) : t.set f k v = some (t.put k v) := by
  rw [Option.isSome_iff_exists] at h
  obtain ⟨t', h'⟩ := h
  have h1 := Tr.set_fuel _ (max f (k + 1)) _ _ _ _ h' (Nat.le_max_left _ _)
  have h2 := Tr.set_fuel _ (max f (k + 1)) _ _ _ _ (Tr.set_put1 t k v) (Nat.le_max_right _ _)
  rw [h1] at h2
  rw [h', h2]
theorem Tr.set_is {α : Type} {f : Nat} {t : Tr α} {k : Nat} {v : Option α} (h : k + 1 < 2 ^ f) : (t.set f k v).isSome = true := by
  rw [Tr.set_put t k v h]; rfl
@[simp] theorem Tr.get_put {α : Type} (t : Tr α) (k : Nat) (v : Option α) (j : Nat) : (t.put k v).get j = if j = k then v else t.get j := Tr.set_get _ _ _ _ _ (Tr.set_put1 t k v) j
@[simp] theorem Tr.get_none {α : Type} (k : Nat) : (Tr.e : Tr α).get k = none := Tr.get_e k
theorem setK_put {α β : Type} {f : Nat} {t : Tr α} {k : Nat} {v : Option α} {kont : Tr α → β} {d : β} (h : k + 1 < 2 ^ f) : setK f t k v kont d = kont (t.put k v) := by
  rw [setK_eq, Tr.set_put t k v h]
theorem setK_put1 {α β : Type} {t : Tr α} {k : Nat} {v : Option α} {kont : Tr α → β} {d : β} : setK (Nat.succ k) t k v kont d = kont (t.put k v) := by
  rw [setK_eq]; rw [Tr.set_put1]

/-! ### rows of cells -/
noncomputable def Tr.puts {α : Type} : Tr α → Nat → List α → Tr α
  | t, _, [] => t
  | t, i, v :: l => (t.put i (some v)).puts (i + 1) l
theorem Tr.get_puts {α : Type} (l : List α) : ∀ (t : Tr α) (i j : Nat), (t.puts i l).get j = if i ≤ j ∧ j < i + l.length then l[j - i]? else t.get j := by
  induction l with
  | nil =>
    intro t i j
    have : ¬ (i ≤ j ∧ j < i + ([] : List α).length) := by simp only [List.length_nil]; omega
    rw [if_neg this]; rfl
  | cons v l ih =>
    intro t i j
    show (((t.put i (some v)).puts (i + 1) l).get j) = _
    rw [ih, Tr.get_put]
    by_cases h1 : j = i
    · subst h1
      rw [if_neg (by omega), if_pos rfl, if_pos (by simp only [List.length_cons]; omega), Nat.sub_self]
      rfl
    · by_cases h2 : i + 1 ≤ j ∧ j < i + 1 + l.length
      · rw [if_pos h2, if_pos (by simp only [List.length_cons]; omega)]
        have : j - i = (j - (i + 1)) + 1 := by omega
        rw [this, List.getElem?_cons_succ]
      · rw [if_neg h2, if_neg h1, if_neg (by simp only [List.length_cons]; omega)]
theorem writeK_puts {β : Type} {l : List AV} : ∀ {t : Tr AV} {off : Nat} {k : Tr AV → R β}, writeK t off l k = k (t.puts off l) := by
  unfold writeK
  induction l with
  | nil => intro t off k; rfl
  | cons v l ih =>
    intro t off k
    rw [listR_cons, setK_put1, forceN_eq]
    exact ih
/-- The cells from a place on. -/
def rdT {α : Type} (t : Tr α) (off : Nat) : Nat → Option (List α)
  | 0 => some []
  | n + 1 => match t.get off with
    | none => none
    | some v => (rdT t (off + 1) n).map (v :: ·)
theorem rdT_some {α : Type} {t : Tr α} : ∀ {n : Nat} {off : Nat} {l : List α}, rdT t off n = some l ↔ l.length = n ∧ ∀ i, i < n → t.get (off + i) = l[i]? := by
  intro n
  induction n with
  | zero =>
    intro off l
    constructor
    · intro h; cases h; exact ⟨rfl, fun i hi => by omega⟩
    · rintro ⟨h, _⟩; rw [List.length_eq_zero_iff] at h; subst h; rfl
  | succ n ih =>
    intro off l
    simp only [rdT]
    constructor
    · intro h
      cases hv : t.get off with
      | none => rw [hv] at h; cases h
      | some v =>
        rw [hv] at h
        simp only [Option.map_eq_some_iff] at h
        obtain ⟨l', h1, h2⟩ := h
        subst h2
        obtain ⟨h3, h4⟩ := ih.1 h1
        refine ⟨by simp [h3], fun i hi => ?_⟩
        cases i with
        | zero => simpa using hv
        | succ i =>
          have := h4 i (by omega)
          rw [List.getElem?_cons_succ, ← this]
          congr 1; omega
    · rintro ⟨h1, h2⟩
      cases l with
      | nil => simp at h1
      | cons v l =>
        have h0 := h2 0 (by omega)
        simp only [Nat.add_zero, List.getElem?_cons_zero] at h0
        rw [h0]
        have : rdT t (off + 1) n = some l := ih.2 ⟨by simpa using h1, fun i hi => by
          have := h2 (i + 1) (by omega)
          rw [List.getElem?_cons_succ] at this
          rw [← this]; congr 1; omega⟩
        simp [this]
theorem readK_rdT {β : Type} {t : Tr AV} {off m : Nat} {k : List AV → R β} {l : List AV} (h : rdT t off m = some l) : readK t off m k = k l := by
  have key : ∀ (m : Nat) (acc : List AV) (l : List AV), rdT t off m = some l → natR (α := List AV) (β := R β) k (fun i ih acc => getK t (Nat.add off i) (fun v => ih (v :: acc)) (.er [4, off, i])) m acc = k (l ++ acc) := by
    intro m
    induction m with
    | zero => intro acc l h; cases h; rfl
    | succ m ih =>
      intro acc l h
      obtain ⟨h1, h2⟩ := rdT_some.1 h
      rw [natR_succ, getK_eq]
      have hm := h2 m (by omega)
      rw [List.getElem?_eq_getElem (by omega)] at hm
      have hm' : t.get (Nat.add off m) = some l[m] := hm
      rw [hm']
      have hl : rdT t off m = some (l.take m) := rdT_some.2 ⟨by simp; omega, fun i hi => by rw [h2 i (by omega), List.getElem?_take, if_pos hi]⟩
      show natR k _ m (l[m] :: acc) = _
      rw [ih _ _ hl]
      congr 1
      have h3 : l.drop m = [l[m]] := by
        rw [List.drop_eq_getElem_cons (by omega), List.drop_eq_nil_of_le (by omega)]
      calc l.take m ++ l[m] :: acc = (l.take m ++ [l[m]]) ++ acc := by rw [List.append_assoc]; rfl
        _ = (l.take m ++ l.drop m) ++ acc := by rw [h3]
        _ = l ++ acc := by rw [List.take_append_drop]
  unfold readK
  rw [key m [] l h, List.append_nil]

/-! ### heaps -/
namespace AH
def get (H : AH) (id : Nat) : Option AO := H.t.get id
noncomputable def put (H : AH) (id : Nat) (o : Option AO) : AH := ⟨H.next, H.t.put id o⟩
noncomputable def add (H : AH) (o : AO) : AH := ⟨H.next + 1, H.t.put H.next (some o)⟩
@[simp] theorem get_put (H : AH) (id : Nat) (o : Option AO) (j : Nat) : (H.put id o).get j = if j = id then o else H.get j := Tr.get_put _ _ _ _
@[simp] theorem get_add (H : AH) (o : AO) (j : Nat) : (H.add o).get j = if j = H.next then some o else H.get j := Tr.get_put _ _ _ _
@[simp] theorem next_put (H : AH) (id : Nat) (o : Option AO) : (H.put id o).next = H.next := rfl
@[simp] theorem next_add (H : AH) (o : AO) : (H.add o).next = H.next + 1 := rfl
end AH
theorem newK_add {β : Type} {H : AH} {o : AO} {k : Nat → AH → R β} : newK H o k = k H.next (H.add o) := by
  cases H with
  | mk nx t =>
    show setK (Nat.succ nx) t nx (some o) (fun t' => forceN (Nat.succ nx) fun nx' => k nx ⟨nx', t'⟩) (.er [1]) = _
    rw [setK_put1, forceN_eq]; rfl
theorem updK_put {β : Type} {H : AH} {id : Nat} {o : Option AO} {k : AH → R β} : updK H id o k = k (H.put id o) := by
  cases H with
  | mk nx t =>
    show setK (Nat.succ id) t id o (fun t' => k ⟨nx, t'⟩) (.er [3]) = _
    rw [setK_put1]; rfl
theorem objK_get {β : Type} {H : AH} {id : Nat} {k : AO → R β} : objK H id k = match H.get id with | some o => k o | none => .er [2, id] := by
  cases H with
  | mk nx t =>
    show getK t id k (.er [2, id]) = (match t.get id with | some o => k o | none => .er [2, id])
    rw [getK_eq]
    cases t.get id <;> rfl
end Go.Proofs.YtclljjfkaljdnaaGreatDoor
namespace Go.Proofs.YtclljjfkaljdnaaGreatDoor
open Go.RowKit

/-- What is still to be done. -/
inductive Kon where
  | code (c : Code)
  | ops (all l : List Oper)
  | plan (all : List Oper) (l : List PStep)
  | again (all : List Oper) (l : List Nat)
  | blk (id : Nat)

section
variable (E : Env) (rc : Go')
noncomputable def evalK : List Kon → AEx → AFr → AH → St
  | [], ex, fr, H => .ok (ex, fr, H)
  | .code c :: k, .normal, fr, H => (match codeS E rc c fr H with
    | .er l => .er l
    | .ok (ex', fr', H') => evalK k ex' fr' H')
  | .ops all l :: k, .normal, fr, H => opsK E rc all l (fun fr' H' => evalK k .normal fr' H') fr H
  | .plan all l :: k, .normal, fr, H => planK E rc all l (fun fr' H' => evalK k .normal fr' H') fr H
  | .again all l :: k, .normal, fr, H => againL E fr all l H (fun _ => evalK k .normal fr H)
  | .blk id :: k, .exit j, fr, H => evalK k (if j = id then .normal else .exit j) fr H
  | _ :: k, ex, fr, H => evalK k ex fr H
end
section
variable {E : Env} {rc rc' : Go'} {n m : Nat}
theorem evalK_m (hnm : n ≤ m) (hr : RcLe rc rc') : ∀ (k : List Kon) (ex : AEx) (fr : AFr) (H : AH), Le R.ok (evalK (E.at n) rc k ex fr H) (evalK (E.at m) rc' k ex fr H)
  | [], ex, fr, H => le_refl _
  | .code c :: k, ex, fr, H => by
    cases ex with
    | normal =>
      simp only [evalK]
      cases hc : codeS (E.at n) rc c fr H with
      | er l => exact Le.er
      | ok r => rw [codeS_m hnm hr c _ _ _ hc]; exact evalK_m hnm hr k _ _ _
    | exit j => simp only [evalK]; exact evalK_m hnm hr k _ _ _
    | ret => simp only [evalK]; exact evalK_m hnm hr k _ _ _
  | .ops all l :: k, ex, fr, H => by
    cases ex with
    | normal => simp only [evalK]; exact opsK_m hr fun _ _ => evalK_m hnm hr k _ _ _
    | exit j => simp only [evalK]; exact evalK_m hnm hr k _ _ _
    | ret => simp only [evalK]; exact evalK_m hnm hr k _ _ _
  | .plan all l :: k, ex, fr, H => by
    cases ex with
    | normal => simp only [evalK]; exact planK_m hr fun _ _ => evalK_m hnm hr k _ _ _
    | exit j => simp only [evalK]; exact evalK_m hnm hr k _ _ _
    | ret => simp only [evalK]; exact evalK_m hnm hr k _ _ _
  | .again all l :: k, ex, fr, H => by
    cases ex with
    | normal => simp only [evalK]; exact againL_m fun _ => evalK_m hnm hr k _ _ _
    | exit j => simp only [evalK]; exact evalK_m hnm hr k _ _ _
    | ret => simp only [evalK]; exact evalK_m hnm hr k _ _ _
  | .blk id :: k, ex, fr, H => by
    cases ex with
    | normal => simp only [evalK]; exact evalK_m hnm hr k _ _ _
    | exit j => simp only [evalK]; exact evalK_m hnm hr k _ _ _
    | ret => simp only [evalK]; exact evalK_m hnm hr k _ _ _
end

/-- Calls and rounds: they end, and this is so then. -/
def C (E : Env) (t : Task) (H : AH) (Q : AV → AH → Prop) : Prop := ∃ n v H', runAt E n t H = .ok (v, H') ∧ Q v H'
/-- What is to be done ends, and this is so then. -/
def MX (E : Env) (k : List Kon) (ex : AEx) (fr : AFr) (H : AH) (Q : AEx → AFr → AH → Prop) : Prop :=
  ∃ n ex' fr' H', evalK (E.at n) (runAt E n) k ex fr H = .ok (ex', fr', H') ∧ Q ex' fr' H'
def M (E : Env) (k : List Kon) (fr : AFr) (H : AH) (Q : AEx → AFr → AH → Prop) : Prop := MX E k .normal fr H Q
theorem C.mono {E : Env} {t : Task} {H : AH} {Q Q' : AV → AH → Prop} (h : C E t H Q) (hq : ∀ v H', Q v H' → Q' v H') : C E t H Q' := by
  obtain ⟨n, v, H', h1, h2⟩ := h; exact ⟨n, v, H', h1, hq _ _ h2⟩
theorem M.mono {E : Env} {k : List Kon} {fr : AFr} {H : AH} {Q Q' : AEx → AFr → AH → Prop} (h : M E k fr H Q) (hq : ∀ ex fr H', Q ex fr H' → Q' ex fr H') : M E k fr H Q' := by
  obtain ⟨n, ex, fr', H', h1, h2⟩ := h; exact ⟨n, ex, fr', H', h1, hq _ _ _ h2⟩

section
variable {E : Env} {k : List Kon} {fr : AFr} {H : AH} {Q : AEx → AFr → AH → Prop}
theorem M_nil : M E [] fr H Q ↔ Q .normal fr H :=
  ⟨fun ⟨_, _, _, _, h1, h2⟩ => by cases h1; exact h2, fun h => ⟨0, _, _, _, rfl, h⟩⟩
theorem M_skip : M E (.code .skip :: k) fr H Q ↔ M E k fr H Q := Iff.rfl
theorem M_seq {a b : Code} : M E (.code (.seq a b) :: k) fr H Q ↔ M E (.code a :: .code b :: k) fr H Q := by
  have key : ∀ n, evalK (E.at n) (runAt E n) (.code (.seq a b) :: k) .normal fr H = evalK (E.at n) (runAt E n) (.code a :: .code b :: k) .normal fr H := by
    intro n
    simp only [evalK]
    show (match seqS (codeS (E.at n) (runAt E n) a) (codeS (E.at n) (runAt E n) b) fr H with
      | .er l => (.er l : St)
      | .ok (ex', fr', H') => evalK (E.at n) (runAt E n) k ex' fr' H') = _
    unfold seqS
    cases codeS (E.at n) (runAt E n) a fr H with
    | er l => rfl
    | ok r =>
      obtain ⟨ex, fr', H'⟩ := r
      cases ex with
      | normal => simp only [evalK]
      | exit j => simp only [evalK]
      | ret => simp only [evalK]
  unfold M MX
  simp only [key]
theorem M_block {id : Nat} {a : Code} : M E (.code (.block id a) :: k) fr H Q ↔ M E (.code a :: .blk id :: k) fr H Q := by
  have key : ∀ n, evalK (E.at n) (runAt E n) (.code (.block id a) :: k) .normal fr H = evalK (E.at n) (runAt E n) (.code a :: .blk id :: k) .normal fr H := by
    intro n
    simp only [evalK]
    show (match blockS id (codeS (E.at n) (runAt E n) a) fr H with
      | .er l => (.er l : St)
      | .ok (ex', fr', H') => evalK (E.at n) (runAt E n) k ex' fr' H') = _
    unfold blockS
    cases codeS (E.at n) (runAt E n) a fr H with
    | er l => rfl
    | ok r =>
      obtain ⟨ex, fr', H'⟩ := r
      cases ex with
      | normal => simp only [evalK]
      | ret => simp only [evalK]
      | exit j =>
        simp only [evalK]
        by_cases h : j = id
        · subst h
          have : Nat.beq j j = true := by simp
          rw [this, if_pos rfl]; rfl
        · have : Nat.beq j id = false := by
            cases hb : Nat.beq j id with
            | false => rfl
            | true => exact absurd (Nat.eq_of_beq_eq_true hb) h
          rw [this, if_neg h]; rfl
  unfold M MX
  simp only [key]
theorem M_blk {id : Nat} : M E (.blk id :: k) fr H Q ↔ M E k fr H Q := Iff.rfl
theorem M_ret : M E (.code .ret :: k) fr H Q ↔ MX E k .ret fr H Q := Iff.rfl
theorem M_exit {j : Nat} : M E (.code (.exit j) :: k) fr H Q ↔ MX E k (.exit j) fr H Q := Iff.rfl
theorem MX_nil {ex : AEx} : MX E [] ex fr H Q ↔ Q ex fr H :=
  ⟨fun ⟨_, _, _, _, h1, h2⟩ => by cases h1; exact h2, fun h => ⟨0, _, _, _, rfl, h⟩⟩
theorem MX_ret {x : Kon} : MX E (x :: k) .ret fr H Q ↔ MX E k .ret fr H Q := by cases x <;> exact Iff.rfl
theorem MX_exit_code {j : Nat} {c : Code} : MX E (.code c :: k) (.exit j) fr H Q ↔ MX E k (.exit j) fr H Q := Iff.rfl
theorem MX_exit_ops {j : Nat} {a l : List Oper} : MX E (.ops a l :: k) (.exit j) fr H Q ↔ MX E k (.exit j) fr H Q := Iff.rfl
theorem MX_exit_plan {j : Nat} {a : List Oper} {l : List PStep} : MX E (.plan a l :: k) (.exit j) fr H Q ↔ MX E k (.exit j) fr H Q := Iff.rfl
theorem MX_exit_again {j : Nat} {a : List Oper} {l : List Nat} : MX E (.again a l :: k) (.exit j) fr H Q ↔ MX E k (.exit j) fr H Q := Iff.rfl
theorem MX_exit_blk {j id : Nat} : MX E (.blk id :: k) (.exit j) fr H Q ↔ if j = id then M E k fr H Q else MX E k (.exit j) fr H Q := by
  unfold M MX
  simp only [evalK]
  by_cases h : j = id
  · simp only [h, if_true]
  · simp only [h, if_false]
/-- A loop: the body, and the loop again. -/
theorem M_loop {a : Code} (h : M E (.code a :: .code (.loop a) :: k) fr H Q) : M E (.code (.loop a) :: k) fr H Q := by
  obtain ⟨n, ex', fr', H', h1, h2⟩ := h
  refine ⟨n + 1, ex', fr', H', ?_, h2⟩
  simp only [evalK] at h1 ⊢
  have e2 : ∀ j rc, codeS (E.at j) rc (.loop a) = loopS (E.at j) (codeS (E.at j) rc a) := fun j rc => by kernel_rfl
  rw [e2]
  have hle : RcLe (runAt E n) (runAt E (n + 1)) := runAt_le (by omega)
  have hc := codeS_m (E := E) (n := n) (m := n + 1) (by omega) hle
  show (match loopN (codeS (E.at (n + 1)) (runAt E (n + 1)) a) (n + 1) fr H with
      | .er l => (.er l : St)
      | .ok (ex', fr', H') => evalK (E.at (n + 1)) (runAt E (n + 1)) k ex' fr' H') = _
  cases ha : codeS (E.at n) (runAt E n) a fr H with
  | er l => rw [ha] at h1; cases h1
  | ok r =>
    rw [ha] at h1
    obtain ⟨ex1, fr1, H1⟩ := r
    have ha' := hc a _ _ _ ha
    have e1 : loopN (codeS (E.at (n + 1)) (runAt E (n + 1)) a) (n + 1) fr H = (match codeS (E.at (n + 1)) (runAt E (n + 1)) a fr H with
        | .er l => .er l
        | .ok r => match r with
          | (.normal, fr', H') => loopN (codeS (E.at (n + 1)) (runAt E (n + 1)) a) n fr' H'
          | r => .ok r) := rfl
    rw [e1, ha']
    cases ex1 with
    | normal =>
      simp only [evalK] at h1 ⊢
      cases hl : loopS (E.at n) (codeS (E.at n) (runAt E n) a) fr1 H1 with
      | er l => rw [e2, hl] at h1; cases h1
      | ok r =>
        rw [e2, hl] at h1
        have hl' : loopN (codeS (E.at (n + 1)) (runAt E (n + 1)) a) n fr1 H1 = .ok r := by
          have key : ∀ (j : Nat) fr H q, loopN (codeS (E.at n) (runAt E n) a) j fr H = .ok q → loopN (codeS (E.at (n + 1)) (runAt E (n + 1)) a) j fr H = .ok q := by
            intro j
            induction j with
            | zero => intro fr H q h; cases h
            | succ j ih =>
              intro fr H q h
              obtain ⟨ex, fr', H', hx, hcs⟩ := loopN_succ h
              show (match codeS (E.at (n + 1)) (runAt E (n + 1)) a fr H with
                | .er l => .er l
                | .ok r => match r with
                  | (.normal, fr', H') => loopN (codeS (E.at (n + 1)) (runAt E (n + 1)) a) j fr' H'
                  | r => .ok r) = (.ok q : St)
              rw [hc a _ _ _ hx]
              rcases hcs with ⟨rfl, h2⟩ | ⟨h1, h2⟩
              · exact ih _ _ _ h2
              · subst h2
                cases ex with
                | normal => exact absurd rfl h1
                | exit j => rfl
                | ret => rfl
          exact key n fr1 H1 r hl
        rw [hl']
        exact le_same (evalK_m (E := E) (by omega) hle k _ _ _) h1
    | exit j =>
      simp only [evalK] at h1 ⊢
      exact le_same (evalK_m (E := E) (by omega) hle k _ _ _) h1
    | ret =>
      simp only [evalK] at h1 ⊢
      exact le_same (evalK_m (E := E) (by omega) hle k _ _ _) h1
end
end Go.Proofs.YtclljjfkaljdnaaGreatDoor
namespace Go.Proofs.YtclljjfkaljdnaaGreatDoor
open Go.RowKit

def ofVal : Value → AV
  | .agg cs => .agg (cs.toList.map .lit)
  | v => .lit v
def evV (E : Env) (s : Tr AV) : Operand → Option AV
  | .tmp t => s.get t
  | .const v => some (ofVal v)
  | .global g => (E.gl.get g).map fun id => .ptr id 0
  | .func f => some (.fn (.func f) [] [])
theorem mapK_lits {β : Type} (l : List Value) (k : List AV → R β) : mapK (fun v k => k (AV.lit v)) l k = k (l.map .lit) := by
  unfold mapK
  induction l generalizing k with
  | nil => rfl
  | cons a l ih => rw [listR_cons]; exact ih _
theorem evK_evV {β : Type} {E : Env} {s : Tr AV} {x : Operand} {v : AV} {k : AV → R β} (h : evV E s x = some v) : evK E s x k = k v := by
  cases x with
  | tmp t => show getK s t k _ = _; rw [getK_eq]; have h' : s.get t = some v := h; rw [h']
  | const c =>
    show ofV c k = _
    unfold ofV
    cases c with
    | agg cs => cases h; dsimp only; rw [mapK_lits]; rfl
    | _ => cases h; rfl
  | global g =>
    show getK E.gl g (fun id => k (.ptr id 0)) _ = _
    rw [getK_eq]
    have h' : (E.gl.get g).map (fun id => AV.ptr id 0) = some v := h
    rw [Option.map_eq_some_iff] at h'
    obtain ⟨id, h1, h2⟩ := h'
    rw [h1, ← h2]
  | func f => cases h; rfl
theorem evK_at {β : Type} (E : Env) (n : Nat) (s : Tr AV) (x : Operand) (k : AV → R β) : evK (E.at n) s x k = evK E s x k := by cases E; rfl

/-- What is written, and what is to be done then. -/
def MD (E : Env) (d : Option Tmp) (v : AV) (k : List Kon) (fr : AFr) (H : AH) (Q : AEx → AFr → AH → Prop) : Prop :=
  match d with
  | none => M E k fr H Q
  | some t => t < fr.size ∧ (fr.slots.set 64 t (some v)).isSome = true ∧ M E k ⟨fr.slots.put t (some v), fr.size, fr.marks, fr.round, fr.fn⟩ H Q
/-- A call, or a round, and what is to be done then. -/
def MT (E : Env) (t : Task) (d : Option Tmp) (k : List Kon) (fr : AFr) (H : AH) (Q : AEx → AFr → AH → Prop) : Prop :=
  C E t H fun v H' => MD E d v k fr H' Q
/-- What an operation yields, and what is to be done then. -/
def MO (E : Env) (r : R ARes) (d : Option Tmp) (k : List Kon) (fr : AFr) (Q : AEx → AFr → AH → Prop) : Prop :=
  match r with
  | .er _ => False
  | .ok (.val v H') => MD E d v k fr H' Q
  | .ok (.call f args H') => MT E (.call f args) d k fr H' Q
  | .ok (.round l args H') => MT E (.round l args) d k fr H' Q
/-- Is the operation to be done? -/
def wanted (fr : AFr) (all : List Oper) (g : Option (Nat × Bool)) : Option Bool :=
  match g with
  | none => some true
  | some (j, b) => match all[j]? with
    | none => none
    | some o => match o.dst with
      | none => none
      | some t => match fr.slots.get t with
        | none => none
        | some (.lit (.bool c)) => some (c == b)
        | some _ => some false
def MOp (E : Env) (all : List Oper) (o : Oper) (k : List Kon) (fr : AFr) (H : AH) (Q : AEx → AFr → AH → Prop) : Prop :=
  ∃ w, wanted fr all o.guard = some w ∧ (w = true → MO E (opK E fr.slots o.op H) o.dst k fr Q) ∧ (w = false → MD E o.dst undefA k fr H Q)

theorem nthK_get {α β : Type} {l : List α} : ∀ {n : Nat} {k : α → R β} {d : R β}, nthK l n k d = match l[n]? with | some a => k a | none => d := by
  unfold nthK
  induction l with
  | nil => intro n k d; rfl
  | cons a l ih =>
    intro n k d
    rw [listR_cons]
    cases n with
    | zero => rfl
    | succ n =>
      show listR _ _ l n = _
      rw [ih]; rfl
theorem wantedK_of {β : Type} {fr : AFr} {all : List Oper} {g : Option (Nat × Bool)} {yes no : Unit → R β} {w : Bool} (h : wanted fr all g = some w) : wantedK fr all g yes no = if w then yes () else no () := by
  unfold wantedK
  unfold wanted at h
  cases g with
  | none => cases h; rfl
  | some p =>
    obtain ⟨j, b⟩ := p
    dsimp only at h ⊢
    rw [nthK_get]
    cases ho : all[j]? with
    | none => rw [ho] at h; cases h
    | some o =>
      rw [ho] at h
      dsimp only at h ⊢
      cases hd : o.dst with
      | none => rw [hd] at h; cases h
      | some t =>
        rw [hd] at h
        dsimp only at h ⊢
        rw [getK_eq]
        cases hs : fr.slots.get t with
        | none => rw [hs] at h; cases h
        | some v =>
          rw [hs] at h
          dsimp only at h ⊢
          split at h
          · cases h
          · rename_i c hc
            cases hc
            cases h
            cases c <;> cases b <;> rfl
          · cases h
            split
            · rename_i b' hn; exfalso; cases b' <;> simp_all
            · rfl
section
variable {E : Env} {k : List Kon} {fr : AFr} {H : AH} {Q : AEx → AFr → AH → Prop}
theorem MD_steps {d : Option Tmp} {v : AV} (h : MD E d v k fr H Q) : ∃ fr', M E k fr' H Q ∧ ∀ {β : Type} (kk : AFr → R β), dstK fr d v kk = kk fr' := by
  cases d with
  | none => exact ⟨fr, h, fun _ => rfl⟩
  | some t =>
    obtain ⟨h1, h3, h2⟩ := h
    refine ⟨_, h2, fun kk => ?_⟩
    obtain ⟨s, n, m, r, f⟩ := fr
    show boolC (.er [120]) (setK 64 s t (some v) (fun s' => kk ⟨s', n, m, r, f⟩) (.er [121])) (Nat.blt t n) = _
    have : Nat.blt t n = true := by simpa [Nat.blt_eq] using h1
    rw [this]
    show setK 64 s t (some v) (fun s' => kk ⟨s', n, m, r, f⟩) (.er [121]) = _
    rw [setK_eq, Tr.set_is_put h3]
theorem MT_steps {t : Task} {d : Option Tmp} (h : MT E t d k fr H Q) : ∃ n v H' fr', M E k fr' H' Q ∧ (∀ {β : Type} (kk : AFr → R β), dstK fr d v kk = kk fr') ∧ ∀ m, n ≤ m → runAt E m t H = .ok (v, H') := by
  obtain ⟨n, v, H', h1, h2⟩ := h
  obtain ⟨fr', h3, h4⟩ := MD_steps h2
  exact ⟨n, v, H', fr', h3, h4, fun m hm => runAt_le hm _ _ _ h1⟩
theorem MOp_steps {all : List Oper} {o : Oper} (h : MOp E all o k fr H Q) : ∃ n fr' H', M E k fr' H' Q ∧ ∀ m, n ≤ m → ∀ {β : Type} (kk : AFr → AH → R β), operK (E.at m) (runAt E m) fr all o H kk = kk fr' H' := by
  obtain ⟨w, hw, hyes, hno⟩ := h
  cases w with
  | false =>
    obtain ⟨fr', h1, h2⟩ := MD_steps (hno rfl)
    refine ⟨0, fr', H, h1, fun m _ β kk => ?_⟩
    unfold operK
    rw [wantedK_of hw, if_neg (by simp)]
    exact h2 _
  | true =>
    have h := hyes rfl
    unfold MO at h
    cases hr : opK E fr.slots o.op H with
    | er l => rw [hr] at h; cases h
    | ok r =>
      rw [hr] at h
      cases r with
      | val v H' =>
        obtain ⟨fr', h1, h2⟩ := MD_steps h
        refine ⟨0, fr', H', h1, fun m _ β kk => ?_⟩
        unfold operK
        rw [wantedK_of hw, if_pos rfl, opK_at, hr]
        exact h2 _
      | call f args H' =>
        obtain ⟨n, v, H'', fr', h1, h2, h3⟩ := MT_steps h
        refine ⟨n, fr', H'', h1, fun m hm β kk => ?_⟩
        unfold operK
        rw [wantedK_of hw, if_pos rfl, opK_at, hr]
        dsimp only
        rw [h3 m hm]
        exact h2 _
      | round f args H' =>
        obtain ⟨n, v, H'', fr', h1, h2, h3⟩ := MT_steps h
        refine ⟨n, fr', H'', h1, fun m hm β kk => ?_⟩
        unfold operK
        rw [wantedK_of hw, if_pos rfl, opK_at, hr]
        dsimp only
        rw [h3 m hm]
        exact h2 _
/-- One thing done, under every high limit. -/
theorem M_of_steps {x : Kon} {k' : List Kon} (h : ∃ n fr' H', M E k' fr' H' Q ∧ ∀ m, n ≤ m → evalK (E.at m) (runAt E m) (x :: k) .normal fr H = evalK (E.at m) (runAt E m) k' .normal fr' H') : M E (x :: k) fr H Q := by
  obtain ⟨n, fr', H', ⟨n', ex, fr'', H'', h1, h2⟩, h3⟩ := h
  refine ⟨max n n', ex, fr'', H'', ?_, h2⟩
  rw [h3 _ (Nat.le_max_left _ _)]
  exact le_same (evalK_m (E := E) (Nat.le_max_right _ _) (runAt_le (Nat.le_max_right _ _)) k' _ _ _) h1
theorem M_ops_nil {all : List Oper} : M E (.ops all [] :: k) fr H Q ↔ M E k fr H Q := Iff.rfl
theorem M_ops_cons {all l : List Oper} {o : Oper} (h : MOp E all o (.ops all l :: k) fr H Q) : M E (.ops all (o :: l) :: k) fr H Q := by
  obtain ⟨n, fr', H', h1, h2⟩ := MOp_steps h
  refine M_of_steps ⟨n, fr', H', h1, fun m hm => ?_⟩
  simp only [evalK]
  show operK (E.at m) (runAt E m) fr all o H (fun fr' H' => opsK (E.at m) (runAt E m) all l (fun fr' H' => evalK (E.at m) (runAt E m) k .normal fr' H') fr' H') = _
  rw [h2 m hm]
theorem M_plan_nil {all : List Oper} : M E (.plan all [] :: k) fr H Q ↔ M E k fr H Q := Iff.rfl
theorem M_plan_op {all : List Oper} {l : List PStep} {i : Nat} {o : Oper} (ho : all[i]? = some o) (h : MOp E all o (.plan all l :: k) fr H Q) : M E (.plan all (.op i :: l) :: k) fr H Q := by
  obtain ⟨n, fr', H', h1, h2⟩ := MOp_steps h
  refine M_of_steps ⟨n, fr', H', h1, fun m hm => ?_⟩
  simp only [evalK]
  show nthK all i (fun o => operK (E.at m) (runAt E m) fr all o H (fun fr' H' => planK (E.at m) (runAt E m) all l (fun fr' H' => evalK (E.at m) (runAt E m) k .normal fr' H') fr' H')) (.er [127]) = _
  rw [nthK_get, ho]
  dsimp only
  rw [h2 m hm]
theorem M_plan_wr {all : List Oper} {l : List PStep} {i : Nat} {re : List Nat} {o : Oper} (ho : all[i]? = some o) (h : MOp E all o (.again all re :: .plan all l :: k) fr H Q) : M E (.plan all (.wr i re :: l) :: k) fr H Q := by
  obtain ⟨n, fr', H', h1, h2⟩ := MOp_steps h
  refine M_of_steps ⟨n, fr', H', h1, fun m hm => ?_⟩
  simp only [evalK]
  show nthK all i (fun o => operK (E.at m) (runAt E m) fr all o H (fun fr' H' => againL (E.at m) fr' all re H' fun _ => planK (E.at m) (runAt E m) all l (fun fr' H' => evalK (E.at m) (runAt E m) k .normal fr' H') fr' H')) (.er [128]) = _
  rw [nthK_get, ho]
  dsimp only
  rw [h2 m hm]
theorem M_again_nil {all : List Oper} : M E (.again all [] :: k) fr H Q ↔ M E k fr H Q := Iff.rfl
/-- Asked again it yields the same. -/
def Same1 (E : Env) (fr : AFr) (o : Oper) (H : AH) : Prop :=
  match opK E fr.slots o.op H with
  | .ok (.val v _) => (match o.dst with
    | none => True
    | some t => match fr.slots.get t with
      | some u => eqA u v = true
      | none => False)
  | _ => False
theorem M_again_cons {all : List Oper} {i : Nat} {l : List Nat} {o : Oper} {w : Bool} (ho : all[i]? = some o) (hw : wanted fr all o.guard = some w) (hs : w = true → Same1 E fr o H) (h : M E (.again all l :: k) fr H Q) : M E (.again all (i :: l) :: k) fr H Q := by
  refine M_of_steps ⟨0, fr, H, h, fun m _ => ?_⟩
  simp only [evalK]
  show againK (E.at m) fr all i H (fun _ => againL (E.at m) fr all l H (fun _ => evalK (E.at m) (runAt E m) k .normal fr H)) = _
  unfold againK
  rw [nthK_get, ho]
  dsimp only
  rw [wantedK_of hw]
  cases w with
  | false => rfl
  | true =>
    rw [if_pos rfl, opK_at]
    have hs := hs rfl
    unfold Same1 at hs
    split at hs
    · rename_i v H' hv
      rw [hv]
      dsimp only
      cases hd : o.dst with
      | none => rfl
      | some t =>
        rw [hd] at hs
        dsimp only at hs ⊢
        rw [getK_eq]
        cases hg : fr.slots.get t with
        | none => rw [hg] at hs; cases hs
        | some u =>
          rw [hg] at hs
          dsimp only at hs ⊢
          rw [hs]; rfl
    · cases hs
theorem M_region_f {id : Nat} {ops : Array Oper} (h : M E (.ops ops.toList ops.toList :: k) fr H Q) : M E (.code (.region id ops false) :: k) fr H Q := by
  obtain ⟨n, ex, fr', H', h1, h2⟩ := h
  refine ⟨n, ex, fr', H', ?_, h2⟩
  simp only [evalK] at h1 ⊢
  have hle : Le (fun (p : AEx × AFr × AH) => evalK (E.at n) (runAt E n) k p.1 p.2.1 p.2.2) (opsK (E.at n) (runAt E n) ops.toList ops.toList (fun fr' H' => evalK (E.at n) (runAt E n) k .normal fr' H') fr H) (opsK (E.at n) (runAt E n) ops.toList ops.toList (fun fr' H' => .ok (AEx.normal, fr', H')) fr H) :=
    opsK_m (E := E) (n := n) (m := n) (fun _ _ _ h => h) fun x y => ⟨fun q h => ⟨_, rfl, h⟩⟩
  obtain ⟨p, h3, h4⟩ := hle.out _ h1
  have hc : codeS (E.at n) (runAt E n) (.region id ops false) fr H = .ok p := h3
  rw [hc]
  exact h4
theorem M_region_t {id : Nat} {ops : Array Oper} {pl : List PStep} (hp : (E.pl.get fr.fn).bind (·.get id) = some pl) (h : M E (.plan ops.toList pl :: k) fr H Q) : M E (.code (.region id ops true) :: k) fr H Q := by
  obtain ⟨n, ex, fr', H', h1, h2⟩ := h
  refine ⟨n, ex, fr', H', ?_, h2⟩
  simp only [evalK] at h1 ⊢
  have hle : Le (fun (p : AEx × AFr × AH) => evalK (E.at n) (runAt E n) k p.1 p.2.1 p.2.2) (planK (E.at n) (runAt E n) ops.toList pl (fun fr' H' => evalK (E.at n) (runAt E n) k .normal fr' H') fr H) (planK (E.at n) (runAt E n) ops.toList pl (fun fr' H' => .ok (AEx.normal, fr', H')) fr H) :=
    planK_m (E := E) (n := n) (m := n) (fun _ _ _ h => h) fun x y => ⟨fun q h => ⟨_, rfl, h⟩⟩
  obtain ⟨p, h3, h4⟩ := hle.out _ h1
  rw [Option.bind_eq_some_iff] at hp
  obtain ⟨tb, hp1, hp2⟩ := hp
  have hc : codeS (E.at n) (runAt E n) (.region id ops true) fr H = .ok p := by
    show getK (E.at n).pl fr.fn (fun tb => getK tb id (fun pl => planK (E.at n) (runAt E n) ops.toList pl (fun fr' H' => .ok (AEx.normal, fr', H')) fr H) (.er [136, fr.fn, id])) (.er [137, fr.fn]) = _
    have e : (E.at n).pl.get fr.fn = some tb := hp1
    rw [getK_eq, e]
    dsimp only
    rw [getK_eq, hp2]
    exact h3
  rw [hc]
  exact h4
theorem M_cond {x : Operand} {a b : Code} {c : Bool} (hx : evV E fr.slots x = some (.lit (.bool c))) (ht : c = true → M E (.code a :: k) fr H Q) (hf : c = false → M E (.code b :: k) fr H Q) : M E (.code (.cond x a b) :: k) fr H Q := by
  have key : ∀ n, codeS (E.at n) (runAt E n) (.cond x a b) fr H = codeS (E.at n) (runAt E n) (if c = true then a else b) fr H := by
    intro n
    show evK (E.at n) fr.slots x (fun v => match v with
      | .lit (.bool c) => boolC (codeS (E.at n) (runAt E n) b fr H) (codeS (E.at n) (runAt E n) a fr H) c
      | _ => .er [129]) = _
    rw [evK_at, evK_evV hx]
    cases c <;> rfl
  have h : M E (.code (if c = true then a else b) :: k) fr H Q := by
    cases c with
    | true => exact ht rfl
    | false => exact hf rfl
  obtain ⟨n, ex, fr', H', h1, h2⟩ := h
  refine ⟨n, ex, fr', H', ?_, h2⟩
  simp only [evalK] at h1 ⊢
  rw [key]; exact h1

/-! ### calls -/
theorem hk_none {E : Env} {n : Nat} {f : FuncId} {args : List AV} {H : AH} (hk : E.hk.get f = none) : runAt E (n + 1) (.call f args) H = bodyS (E.at (n + 1)) (goK (E.at (n + 1)) n) f args H := by
  show getK (E.at (n + 1)).hk f (fun h => natC (bodyS (E.at (n + 1)) (goK (E.at (n + 1)) n) f args H) (fun h' => natC (bodyS (E.at (n + 1)) (goK (E.at (n + 1)) n) f args H) (fun _ => hookK (E.at (n + 1)) h args H) h') h) (bodyS (E.at (n + 1)) (goK (E.at (n + 1)) n) f args H) = _
  have e : (E.at (n + 1)).hk.get f = none := hk
  rw [getK_eq, e]
/-- What a body's end leaves. -/
def CEnd (E : Env) (rs : List ResultVar) (Q : AV → AH → Prop) (ex : AEx) (fr : AFr) (H : AH) : Prop :=
  (∀ j, ex ≠ .exit j) ∧ ∃ p, (eraseL fr.marks H fun H2 => resK E fr.slots H2 rs fun v => .ok (v, H2)) = .ok p ∧ Q p.1 p.2
theorem resK_at {β : Type} (E : Env) (n : Nat) (s : Tr AV) (H : AH) (rs : List ResultVar) (k : AV → R β) : resK (E.at n) s H rs k = resK E s H rs k := by cases E; rfl
theorem lenK_len {α β : Type} {l : List α} {k : Nat → R β} : lenK l k = k l.length := lenK_eq _ _
theorem C_call {f : FuncId} {fn : Func} {c : Code} {nt : Nat} {rs : List ResultVar} {args : List AV} {Q : AV → AH → Prop} (hk : E.hk.get f = none) (hf : E.ft.get f = some fn) (hb : fn.body = some c) (hn : fn.ntmps = nt) (hr : fn.results.toList = rs)
    (h : M E [.code c] ⟨Tr.e.puts 0 args, args.length + (nt - args.length), [], none, f⟩ H (CEnd E rs Q)) : C E (.call f args) H Q := by
  subst hn hr
  obtain ⟨n, ex, fr', H', h1, h2, ⟨p, h3, h4⟩⟩ := h
  refine ⟨n + 1, p.1, p.2, ?_, h4⟩
  rw [hk_none hk]
  unfold bodyS
  have e : (E.at (n + 1)).ft.get f = some fn := hf
  rw [getK_eq, e]
  dsimp only
  rw [hb]
  dsimp only
  unfold slotsK
  rw [writeK_puts, lenK_len]
  dsimp only
  rw [forceN_eq]
  simp only [evalK] at h1
  cases hc : codeS (E.at n) (runAt E n) c ⟨Tr.e.puts 0 args, args.length + (fn.ntmps - args.length), [], none, f⟩ H with
  | er l => rw [hc] at h1; cases h1
  | ok r =>
    rw [hc] at h1
    obtain ⟨ex1, fr1, H1⟩ := r
    cases h1
    have hle : RcLe (runAt E n) (goK (E.at (n + 1)) n) := goK_m (by omega) n n (by omega)
    have hc' := codeS_m (E := E) (n := n) (m := n + 1) (by omega) hle c _ _ _ hc
    show (match codeS (E.at (n + 1)) (goK (E.at (n + 1)) n) c ⟨Tr.e.puts 0 args, args.length + (fn.ntmps - args.length), [], none, f⟩ H with
      | .er l => (.er l : R (AV × AH))
      | .ok r => _) = _
    rw [hc']
    dsimp only
    cases ex with
    | exit j => exact absurd rfl (h2 j)
    | normal => obtain ⟨s', n', m, r', f'⟩ := fr'; dsimp only at h3 ⊢; simp only [resK_at]; exact h3
    | ret => obtain ⟨s', n', m, r', f'⟩ := fr'; dsimp only at h3 ⊢; simp only [resK_at]; exact h3
end
end Go.Proofs.YtclljjfkaljdnaaGreatDoor
