/- An evaluator for closed runs: tries, forcing, abstract values and heaps. Written by the recursors, for the kernel. No program in sight. -/
import Derived.Test.YtclljjfkaljdnaaGreatDoorLib
namespace Go.Proofs.YtclljjfkaljdnaaGreatDoor
open Go.RowKit

inductive R (α : Type) where
  | ok (a : α)
  | er (l : List Nat)

inductive Tr (α : Type) where
  | e
  | n (o : Option α) (l r : Tr α)

--KERNEL
noncomputable def natR {α β : Type} (z : α → β) (s : Nat → (α → β) → α → β) (n : Nat) : α → β := Nat.rec z s n
noncomputable def natC {β : Type} (z : β) (s : Nat → β) (n : Nat) : β := Nat.rec z (fun m _ => s m) n
noncomputable def boolC {β : Type} (f t : β) (b : Bool) : β := Bool.rec f t b
noncomputable def listR {α γ β : Type} (z : γ → β) (s : α → List α → (γ → β) → γ → β) (l : List α) : γ → β := List.rec (motive := fun _ => γ → β) z s l
--DEBUG partial def natR {α β : Type} [Inhabited β] (z : α → β) (s : Nat → (α → β) → α → β) (n : Nat) : α → β := fun a => if n = 0 then z a else s (n - 1) (natR z s (n - 1)) a
--DEBUG @[inline] def natC {β : Type} (z : β) (s : Nat → β) (n : Nat) : β := match n with | 0 => z | m + 1 => s m
--DEBUG @[inline] def boolC {β : Type} (f t : β) (b : Bool) : β := match b with | false => f | true => t
--DEBUG def listR {α γ β : Type} (z : γ → β) (s : α → List α → (γ → β) → γ → β) : List α → γ → β | [] => z | a :: l => s a l (listR z s l)
--END

namespace Tr
variable {α : Type}
def get : Tr α → Nat → Option α
  | .e, _ => none
  | .n o _ _, 0 => o
  | .n _ l r, k + 1 => if k % 2 = 0 then get l (k / 2) else get r (k / 2)
def left : Tr α → Tr α | .e => .e | .n _ l _ => l
def right : Tr α → Tr α | .e => .e | .n _ _ r => r
def top : Tr α → Option α | .e => none | .n o _ _ => o
def set : Nat → Tr α → Nat → Option α → Option (Tr α)
  | 0, _, _, _ => none
  | _ + 1, t, 0, v => some (.n v t.left t.right)
  | f + 1, t, k + 1, v =>
    if k % 2 = 0 then (set f t.left (k / 2) v).map fun l' => .n t.top l' t.right
    else (set f t.right (k / 2) v).map fun r' => .n t.top t.left r'
end Tr

--KERNEL
noncomputable def getK {α β : Type} (t : Tr α) : Nat → (α → β) → β → β :=
  Tr.rec (motive := fun _ => Nat → (α → β) → β → β)
    (fun _ _ d => d)
    (fun o _ _ il ir k kont d => Nat.rec (motive := fun _ => β) (Option.rec (motive := fun _ => β) d kont o)
      (fun k' _ => Bool.rec (motive := fun _ => β) (ir (Nat.div k' 2) kont d) (il (Nat.div k' 2) kont d) (Nat.beq (Nat.mod k' 2) 0)) k) t
noncomputable def setK {α β : Type} (fuel : Nat) : Tr α → Nat → Option α → (Tr α → β) → β → β :=
  Nat.rec (motive := fun _ => Tr α → Nat → Option α → (Tr α → β) → β → β) (fun _ _ _ _ d => d)
    (fun _ ih t k v kont d => Tr.rec (motive := fun _ => β)
      (Nat.rec (motive := fun _ => β) (kont (.n v .e .e))
        (fun k' _ => Bool.rec (motive := fun _ => β) (ih .e (Nat.div k' 2) v (fun r' => kont (.n none .e r')) d) (ih .e (Nat.div k' 2) v (fun l' => kont (.n none l' .e)) d) (Nat.beq (Nat.mod k' 2) 0)) k)
      (fun o l r _ _ => Nat.rec (motive := fun _ => β) (kont (.n v l r))
        (fun k' _ => Bool.rec (motive := fun _ => β) (ih r (Nat.div k' 2) v (fun r' => kont (.n o l r')) d) (ih l (Nat.div k' 2) v (fun l' => kont (.n o l' r)) d) (Nat.beq (Nat.mod k' 2) 0)) k) t) fuel
noncomputable def forceN {β : Type} (n : Nat) (k : Nat → β) : β := Nat.rec (motive := fun _ => β) (k 0) (fun m _ => k (Nat.succ m)) n
noncomputable def forceI {β : Type} (z : Int) (k : Int → β) : β :=
  Int.rec (motive := fun _ => β) (fun n => forceN n fun n' => k (.ofNat n')) (fun n => forceN n fun n' => k (.negSucc n')) z
--DEBUG @[inline] def getK {α β : Type} (t : Tr α) (n : Nat) (k : α → β) (d : β) : β := match t.get n with | some v => k v | none => d
--DEBUG @[inline] def setK {α β : Type} (fuel : Nat) (t : Tr α) (n : Nat) (v : Option α) (k : Tr α → β) (d : β) : β := match t.set fuel n v with | some t' => k t' | none => d
--DEBUG @[inline] def forceN {β : Type} (n : Nat) (k : Nat → β) : β := k n
--DEBUG @[inline] def forceI {β : Type} (z : Int) (k : Int → β) : β := k z
--END

--KERNEL
theorem getK_eq {α β : Type} (t : Tr α) : ∀ (n : Nat) (k : α → β) (d : β), getK t n k d = match t.get n with | some v => k v | none => d := by
  induction t with
  | e => intro n k d; rfl
  | n o l r il ir =>
    intro n k d
    cases n with
    | zero => cases o <;> rfl
    | succ m =>
      show (Bool.rec (motive := fun _ => β) (getK r (Nat.div m 2) k d) (getK l (Nat.div m 2) k d) (Nat.beq (Nat.mod m 2) 0)) = _
      have hb : Nat.beq (Nat.mod m 2) 0 = decide (m % 2 = 0) := by
        rw [Bool.eq_iff_iff, Nat.beq_eq, decide_eq_true_iff]; rfl
      rw [hb]
      by_cases h : m % 2 = 0
      · have : decide (m % 2 = 0) = true := by simp [h]
        rw [this]
        simp only [Tr.get, h, if_true]
        exact il _ _ _
      · have : decide (m % 2 = 0) = false := by simp [h]
        rw [this]
        simp only [Tr.get, h, if_false]
        exact ir _ _ _
theorem setK_eq {α β : Type} : ∀ (f : Nat) (t : Tr α) (n : Nat) (v : Option α) (k : Tr α → β) (d : β), setK f t n v k d = match t.set f n v with | some t' => k t' | none => d := by
  intro f
  induction f with
  | zero => intro t n v k d; rfl
  | succ f ih =>
    intro t n v k d
    cases n with
    | zero => cases t <;> rfl
    | succ m =>
      have hb : Nat.beq (Nat.mod m 2) 0 = decide (m % 2 = 0) := by
        rw [Bool.eq_iff_iff, Nat.beq_eq, decide_eq_true_iff]; rfl
      cases t with
      | e =>
        show (Bool.rec (motive := fun _ => β) (setK f .e (Nat.div m 2) v (fun r' => k (.n none .e r')) d) (setK f .e (Nat.div m 2) v (fun l' => k (.n none l' .e)) d) (Nat.beq (Nat.mod m 2) 0)) = _
        rw [hb]
        by_cases h : m % 2 = 0
        · have h2 : decide (m % 2 = 0) = true := by simp [h]
          rw [h2]
          simp only [Tr.set, h, if_true]
          refine (ih _ _ _ _ _).trans ?_
          show (match Tr.set f .e (m / 2) v with | some t' => _ | none => d) = _
          simp only [Tr.left, Tr.right, Tr.top]
          cases Tr.set f .e (m / 2) v <;> rfl
        · have h2 : decide (m % 2 = 0) = false := by simp [h]
          rw [h2]
          simp only [Tr.set, h, if_false]
          refine (ih _ _ _ _ _).trans ?_
          show (match Tr.set f .e (m / 2) v with | some t' => _ | none => d) = _
          simp only [Tr.left, Tr.right, Tr.top]
          cases Tr.set f .e (m / 2) v <;> rfl
      | n o l r =>
        show (Bool.rec (motive := fun _ => β) (setK f r (Nat.div m 2) v (fun r' => k (.n o l r')) d) (setK f l (Nat.div m 2) v (fun l' => k (.n o l' r)) d) (Nat.beq (Nat.mod m 2) 0)) = _
        rw [hb]
        by_cases h : m % 2 = 0
        · have h2 : decide (m % 2 = 0) = true := by simp [h]
          rw [h2]
          simp only [Tr.set, h, if_true]
          refine (ih _ _ _ _ _).trans ?_
          show (match Tr.set f l (m / 2) v with | some t' => _ | none => d) = _
          simp only [Tr.left, Tr.right, Tr.top]
          cases Tr.set f l (m / 2) v <;> rfl
        · have h2 : decide (m % 2 = 0) = false := by simp [h]
          rw [h2]
          simp only [Tr.set, h, if_false]
          refine (ih _ _ _ _ _).trans ?_
          show (match Tr.set f r (m / 2) v with | some t' => _ | none => d) = _
          simp only [Tr.left, Tr.right, Tr.top]
          cases Tr.set f r (m / 2) v <;> rfl
theorem forceN_eq {β : Type} (n : Nat) (k : Nat → β) : forceN n k = k n := by cases n <;> rfl
theorem forceI_eq {β : Type} (z : Int) (k : Int → β) : forceI z k = k z := by
  cases z with
  | ofNat n => exact forceN_eq n (fun n' => k (.ofNat n'))
  | negSucc n => exact forceN_eq n (fun n' => k (.negSucc n'))
--END

theorem Tr.get_e {α : Type} (k : Nat) : (Tr.e : Tr α).get k = none := by unfold Tr.get; rfl
theorem Tr.get_left {α : Type} (t : Tr α) (k : Nat) (h : k % 2 = 0) : t.get (k + 1) = t.left.get (k / 2) := by
  cases t with
  | e => simp [Tr.left, Tr.get_e]
  | n o l r => simp [Tr.get, Tr.left, h]
theorem Tr.get_right {α : Type} (t : Tr α) (k : Nat) (h : ¬ k % 2 = 0) : t.get (k + 1) = t.right.get (k / 2) := by
  cases t with
  | e => simp [Tr.right, Tr.get_e]
  | n o l r => simp [Tr.get, Tr.right, h]
theorem Tr.get_top {α : Type} (t : Tr α) : t.get 0 = t.top := by cases t <;> simp [Tr.top, Tr.get]
theorem Tr.set_get {α : Type} : ∀ (f : Nat) (t t' : Tr α) (k : Nat) (v : Option α), t.set f k v = some t' → ∀ j, t'.get j = if j = k then v else t.get j := by
  intro f
  induction f with
  | zero => intro t t' k v h; cases h
  | succ f ih =>
    intro t t' k v h j
    cases k with
    | zero =>
      simp only [Tr.set, Option.some.injEq] at h
      subst h
      cases j with
      | zero => simp [Tr.get]
      | succ j =>
        by_cases hj : j % 2 = 0
        · rw [Tr.get_left _ _ hj, Tr.get_left _ _ hj]; simp [Tr.left]
        · rw [Tr.get_right _ _ hj, Tr.get_right _ _ hj]; simp [Tr.right]
    | succ k =>
      simp only [Tr.set] at h
      by_cases hk : k % 2 = 0
      · simp only [hk, if_true, Option.map_eq_some_iff] at h
        obtain ⟨l', hl, rfl⟩ := h
        have := ih _ _ _ _ hl
        cases j with
        | zero => simp [Tr.get, Tr.get_top]
        | succ j =>
          by_cases hj : j % 2 = 0
          · rw [Tr.get_left _ _ hj, Tr.get_left t _ hj]
            show l'.get (j / 2) = _
            rw [this]
            by_cases e : j = k
            · simp [e]
            · have : j / 2 ≠ k / 2 := by omega
              simp [e, this]
          · rw [Tr.get_right _ _ hj, Tr.get_right t _ hj]
            simp only [Tr.right]
            have : j ≠ k := by omega
            simp [this]
      · simp only [hk, if_false, Option.map_eq_some_iff] at h
        obtain ⟨r', hr, rfl⟩ := h
        have := ih _ _ _ _ hr
        cases j with
        | zero => simp [Tr.get, Tr.get_top]
        | succ j =>
          by_cases hj : j % 2 = 0
          · rw [Tr.get_left _ _ hj, Tr.get_left t _ hj]
            simp only [Tr.left]
            have : j ≠ k := by omega
            simp [this]
          · rw [Tr.get_right _ _ hj, Tr.get_right t _ hj]
            show r'.get (j / 2) = _
            rw [this]
            by_cases e : j = k
            · simp [e]
            · have : j / 2 ≠ k / 2 := by omega
              simp [e, this]

/-! ### values and heaps -/
/-- A value: 'lit' is the machine's own value, whatever it is; the others have blocks by numbers of the evaluator's. -/
inductive AV where
  | lit (v : Value)
  | ptr (id off : Nat)
  | sl (id off es len cap : Nat) (ex : Bool)
  | esl
  | map (id : Nat)
  | fn (f : Fn) (first captured : List AV)
  | agg (l : List AV)
  | tup (l : List AV)

/-- An entry of a map: its key, its number, what it holds. -/
structure AE where
  k : Value
  b : Nat
  v : AV

inductive AO where
  | cells (n : Nat) (t : Tr AV) (ro : Bool)
  | bag (l : List Value)
  | map (kt : TypeId) (c : Nat) (l : List AE)
  | loop (st : LoopState) (pend : Option Code) (fn : FuncId) (size : Nat) (tmps : Tr AV) (params : List Tmp) (assign body : Code) (df : Nat)
  | deferred

structure AH where
  next : Nat
  t : Tr AO

/-- What is known of a type. -/
structure TI where
  desc : TypeDesc
  size : Nat
  bytes : Nat
  zero : List AV

inductive PStep where
  | op (i : Nat)
  | wr (i : Nat) (re : List Nat)

structure AFr where
  slots : Tr AV
  size : Nat
  marks : List Nat
  round : Option Nat
  fn : FuncId

inductive AEx where
  | normal
  | exit (id : Nat)
  | ret

inductive ARes where
  | val (v : AV) (H : AH)
  | call (f : FuncId) (args : List AV) (H : AH)
  | round (l : Nat) (args : List AV) (H : AH)
end Go.Proofs.YtclljjfkaljdnaaGreatDoor
