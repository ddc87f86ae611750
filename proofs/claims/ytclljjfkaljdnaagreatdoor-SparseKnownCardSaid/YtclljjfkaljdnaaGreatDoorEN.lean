/- The evaluator in continuation style yields what the direct one yields. Printed by wip/genen.py. No program in sight. -/
import Derived.Test.YtclljjfkaljdnaaGreatDoorEC
import Derived.Test.YtclljjfkaljdnaaGreatDoorE4
namespace Go.Proofs.YtclljjfkaljdnaaGreatDoor
open Go.RowKit

/-- What the one yields the other one does, handed on. -/
structure Le {β γ : Type} (kk : γ → R β) (a : R β) (B : R γ) : Prop where
  out : ∀ q, a = .ok q → ∃ r, B = .ok r ∧ kk r = .ok q
theorem Le.er {β γ : Type} {kk : γ → R β} {l : List Nat} {B : R γ} : Le kk (.er l) B := ⟨fun _ h => by cases h⟩
theorem Le.ret {β γ : Type} {kk : γ → R β} {r : γ} : Le kk (kk r) (.ok r) := ⟨fun _ h => ⟨r, rfl, h⟩⟩

theorem natC_r {β γ : Type} {kk : γ → R β} {z : R β} {Z : R γ} {s : Nat → R β} {S : Nat → R γ} {n : Nat} (hz : Le kk z Z) (hs : ∀ m, Le kk (s m) (S m)) : Le kk (natC z s n) (natC Z S n) := by
  cases n with
  | zero => exact hz
  | succ m => exact hs m
theorem boolC_r {β γ : Type} {kk : γ → R β} {f t : R β} {F T : R γ} {b : Bool} (hf : Le kk f F) (ht : Le kk t T) : Le kk (boolC f t b) (boolC F T b) := by
  cases b with
  | false => exact hf
  | true => exact ht
theorem getK_r {α : Type} {β γ : Type} {kk : γ → R β} {t : Tr α} {n : Nat} {k : α → R β} {K : α → R γ} {d : R β} {D : R γ} (h : ∀ x, Le kk (k x) (K x)) (hd : Le kk d D) : Le kk (getK t n k d) (getK t n K D) := by
  rw [getK_eq, getK_eq]
  cases t.get n with
  | none => exact hd
  | some v => exact h v
theorem setK_r {α : Type} {β γ : Type} {kk : γ → R β} {f : Nat} {t : Tr α} {n : Nat} {v : Option α} {k : Tr α → R β} {K : Tr α → R γ} {d : R β} {D : R γ} (h : ∀ x, Le kk (k x) (K x)) (hd : Le kk d D) : Le kk (setK f t n v k d) (setK f t n v K D) := by
  rw [setK_eq, setK_eq]
  cases t.set f n v with
  | none => exact hd
  | some v => exact h v
theorem forceN_r {β γ : Type} {kk : γ → R β} {n : Nat} {k : Nat → R β} {K : Nat → R γ} (h : ∀ x, Le kk (k x) (K x)) : Le kk (forceN n k) (forceN n K) := by
  rw [forceN_eq, forceN_eq]; exact h n
theorem forceI_r {β γ : Type} {kk : γ → R β} {n : Int} {k : Int → R β} {K : Int → R γ} (h : ∀ x, Le kk (k x) (K x)) : Le kk (forceI n k) (forceI n K) := by
  rw [forceI_eq, forceI_eq]; exact h n
theorem forceV_r {β γ : Type} {kk : γ → R β} {v : Value} {k : Value → R β} {K : Value → R γ} (h : ∀ x, Le kk (k x) (K x)) : Le kk (forceV v k) (forceV v K) := by
  unfold forceV
  split
  · apply forceI_r; intro _; exact h _
  · apply boolC_r <;> exact h _
  · exact h _
theorem mapK_r {α δ : Type} {β γ : Type} {kk : γ → R β} {f : α → (δ → R β) → R β} {F : α → (δ → R γ) → R γ} {l : List α} {k : List δ → R β} {K : List δ → R γ} (hf : ∀ a g G, (∀ x, Le kk (g x) (G x)) → Le kk (f a g) (F a G)) (h : ∀ x, Le kk (k x) (K x)) : Le kk (mapK f l k) (mapK F l K) := by
  induction l generalizing k K with
  | nil => exact h []
  | cons a l ih => exact hf a _ _ fun b => ih fun l' => h (b :: l')
theorem appK_r {α : Type} {β γ : Type} {kk : γ → R β} {l m : List α} {k : List α → R β} {K : List α → R γ} (h : ∀ x, Le kk (k x) (K x)) : Le kk (appK l m k) (appK l m K) := by
  induction l generalizing k K with
  | nil => exact h m
  | cons a l ih => exact ih fun l' => h (a :: l')
theorem lenK_r {α : Type} {β γ : Type} {kk : γ → R β} {l : List α} {k : Nat → R β} {K : Nat → R γ} (h : ∀ x, Le kk (k x) (K x)) : Le kk (lenK l k) (lenK l K) := by
  induction l generalizing k K with
  | nil => exact h 0
  | cons a l ih => exact ih fun n => h (Nat.succ n)
theorem nthK_r {α : Type} {β γ : Type} {kk : γ → R β} {l : List α} {n : Nat} {k : α → R β} {K : α → R γ} {d : R β} {D : R γ} (h : ∀ x, Le kk (k x) (K x)) (hd : Le kk d D) : Le kk (nthK l n k d) (nthK l n K D) := by
  induction l generalizing n with
  | nil => exact hd
  | cons a l ih =>
    cases n with
    | zero => exact h a
    | succ m => exact ih
theorem takeK_r {α : Type} {β γ : Type} {kk : γ → R β} {n : Nat} {l : List α} {k : List α → R β} {K : List α → R γ} {d : R β} {D : R γ} (h : ∀ x, Le kk (k x) (K x)) (hd : Le kk d D) : Le kk (takeK n l k d) (takeK n l K D) := by
  induction n generalizing l k K with
  | zero => exact h []
  | succ n ih =>
    cases l with
    | nil => exact hd
    | cons a l => exact ih (l := l) fun r => h (a :: r)
theorem dropK_r {α : Type} {β γ : Type} {kk : γ → R β} {n : Nat} {l : List α} {k : List α → R β} {K : List α → R γ} {d : R β} {D : R γ} (h : ∀ x, Le kk (k x) (K x)) (hd : Le kk d D) : Le kk (dropK n l k d) (dropK n l K D) := by
  induction n generalizing l with
  | zero => exact h l
  | succ n ih =>
    cases l with
    | nil => exact hd
    | cons a l => exact ih (l := l)
theorem newK_r {β γ : Type} {kk : γ → R β} {H : AH} {o : AO} {k : Nat → AH → R β} {K : Nat → AH → R γ} (h : ∀ x y, Le kk (k x y) (K x y)) : Le kk (newK H o k) (newK H o K) := by
  unfold newK
  repeat' (first | with_reducible exact Le.er | with_reducible exact Le.ret | with_reducible exact h _ _ | intro _ | with_reducible apply natC_r | with_reducible apply boolC_r | with_reducible apply getK_r | with_reducible apply setK_r | with_reducible apply forceN_r | with_reducible apply forceI_r | with_reducible apply forceV_r | with_reducible apply mapK_r | with_reducible apply appK_r | with_reducible apply lenK_r | with_reducible apply nthK_r | with_reducible apply takeK_r | with_reducible apply dropK_r | with_reducible apply_assumption | contradiction | (split <;> (try dsimp only)))
theorem objK_r {β γ : Type} {kk : γ → R β} {H : AH} {id : Nat} {k : AO → R β} {K : AO → R γ} (h : ∀ x, Le kk (k x) (K x)) : Le kk (objK H id k) (objK H id K) := by
  unfold objK
  repeat' (first | with_reducible exact Le.er | with_reducible exact Le.ret | with_reducible exact h _ | intro _ | with_reducible apply natC_r | with_reducible apply boolC_r | with_reducible apply getK_r | with_reducible apply setK_r | with_reducible apply forceN_r | with_reducible apply forceI_r | with_reducible apply forceV_r | with_reducible apply mapK_r | with_reducible apply appK_r | with_reducible apply lenK_r | with_reducible apply nthK_r | with_reducible apply takeK_r | with_reducible apply dropK_r | with_reducible apply newK_r | with_reducible apply_assumption | contradiction | (split <;> (try dsimp only)))
theorem updK_r {β γ : Type} {kk : γ → R β} {H : AH} {id : Nat} {o : Option AO} {k : AH → R β} {K : AH → R γ} (h : ∀ x, Le kk (k x) (K x)) : Le kk (updK H id o k) (updK H id o K) := by
  unfold updK
  repeat' (first | with_reducible exact Le.er | with_reducible exact Le.ret | with_reducible exact h _ | intro _ | with_reducible apply natC_r | with_reducible apply boolC_r | with_reducible apply getK_r | with_reducible apply setK_r | with_reducible apply forceN_r | with_reducible apply forceI_r | with_reducible apply forceV_r | with_reducible apply mapK_r | with_reducible apply appK_r | with_reducible apply lenK_r | with_reducible apply nthK_r | with_reducible apply takeK_r | with_reducible apply dropK_r | with_reducible apply newK_r | with_reducible apply objK_r | with_reducible apply_assumption | contradiction | (split <;> (try dsimp only)))
theorem readK_r {β γ : Type} {kk : γ → R β} {t : Tr AV} {off m : Nat} {k : List AV → R β} {K : List AV → R γ} (h : ∀ x, Le kk (k x) (K x)) : Le kk (readK t off m k) (readK t off m K) := by
  unfold readK
  suffices ∀ acc, Le kk (natR (α := List AV) (β := R β) k (fun i ih acc => getK t (Nat.add off i) (fun v => ih (v :: acc)) (.er [4, off, i])) m acc) (natR (α := List AV) (β := R γ) K (fun i ih acc => getK t (Nat.add off i) (fun v => ih (v :: acc)) (.er [4, off, i])) m acc) from this []
  induction m with
  | zero => exact h
  | succ m ih => intro acc; exact getK_r (fun v => ih (v :: acc)) Le.er
theorem writeK_r {β γ : Type} {kk : γ → R β} {t : Tr AV} {off : Nat} {l : List AV} {k : Tr AV → R β} {K : Tr AV → R γ} (h : ∀ x, Le kk (k x) (K x)) : Le kk (writeK t off l k) (writeK t off l K) := by
  induction l generalizing off t with
  | nil => exact h t
  | cons v l ih =>
    unfold writeK at ih ⊢
    rw [listR_cons, listR_cons]
    exact setK_r (fun t' => forceN_r fun i' => ih (off := i') (t := t')) Le.er
theorem repK_r {β γ : Type} {kk : γ → R β} {z : List AV} {sz n off : Nat} {t : Tr AV} {k : Tr AV → R β} {K : Tr AV → R γ} (h : ∀ x, Le kk (k x) (K x)) : Le kk (repK z sz n off t k) (repK z sz n off t K) := by
  induction n generalizing t with
  | zero => exact h t
  | succ n ih => exact writeK_r fun t' => ih (t := t')
theorem ofV_r {β γ : Type} {kk : γ → R β} {v : Value} {k : AV → R β} {K : AV → R γ} (h : ∀ x, Le kk (k x) (K x)) : Le kk (ofV v k) (ofV v K) := by
  unfold ofV
  split
  · exact mapK_r (fun a g G hg => hg _) fun l => h _
  · exact h _
theorem tiK_r {E : Env} {β γ : Type} {kk : γ → R β} {t : TypeId} {k : TypeDesc → Nat → Nat → List AV → R β} {K : TypeDesc → Nat → Nat → List AV → R γ} (h : ∀ d s b z, Le kk (k d s b z) (K d s b z)) : Le kk (tiK E t k) (tiK E t K) := by
  unfold tiK
  repeat' (first | with_reducible exact Le.er | with_reducible exact Le.ret | with_reducible exact h _ _ _ _ | intro _ | with_reducible apply natC_r | with_reducible apply boolC_r | with_reducible apply getK_r | with_reducible apply setK_r | with_reducible apply forceN_r | with_reducible apply forceI_r | with_reducible apply forceV_r | with_reducible apply mapK_r | with_reducible apply appK_r | with_reducible apply lenK_r | with_reducible apply nthK_r | with_reducible apply takeK_r | with_reducible apply dropK_r | with_reducible apply newK_r | with_reducible apply objK_r | with_reducible apply updK_r | with_reducible apply readK_r | with_reducible apply writeK_r | with_reducible apply repK_r | with_reducible apply ofV_r | with_reducible apply_assumption | contradiction | (split <;> (try dsimp only)))
theorem evK_r {E : Env} {β γ : Type} {kk : γ → R β} {fr : Tr AV} {x : Operand} {k : AV → R β} {K : AV → R γ} (h : ∀ x, Le kk (k x) (K x)) : Le kk (evK E fr x k) (evK E fr x K) := by
  unfold evK
  repeat' (first | with_reducible exact Le.er | with_reducible exact Le.ret | with_reducible exact h _ | intro _ | with_reducible apply natC_r | with_reducible apply boolC_r | with_reducible apply getK_r | with_reducible apply setK_r | with_reducible apply forceN_r | with_reducible apply forceI_r | with_reducible apply forceV_r | with_reducible apply mapK_r | with_reducible apply appK_r | with_reducible apply lenK_r | with_reducible apply nthK_r | with_reducible apply takeK_r | with_reducible apply dropK_r | with_reducible apply newK_r | with_reducible apply objK_r | with_reducible apply updK_r | with_reducible apply readK_r | with_reducible apply writeK_r | with_reducible apply repK_r | with_reducible apply ofV_r | with_reducible apply tiK_r | with_reducible apply_assumption | contradiction | (split <;> (try dsimp only)))
theorem pureV_r {β γ : Type} {kk : γ → R β} {s : Sem Value} {k : Value → R β} {K : Value → R γ} {d : R β} {D : R γ} (h : ∀ x, Le kk (k x) (K x)) (hd : Le kk d D) : Le kk (pureV s k d) (pureV s K D) := by
  unfold pureV
  repeat' (first | with_reducible exact Le.er | with_reducible exact Le.ret | with_reducible exact h _ | with_reducible exact hd | intro _ | with_reducible apply natC_r | with_reducible apply boolC_r | with_reducible apply getK_r | with_reducible apply setK_r | with_reducible apply forceN_r | with_reducible apply forceI_r | with_reducible apply forceV_r | with_reducible apply mapK_r | with_reducible apply appK_r | with_reducible apply lenK_r | with_reducible apply nthK_r | with_reducible apply takeK_r | with_reducible apply dropK_r | with_reducible apply newK_r | with_reducible apply objK_r | with_reducible apply updK_r | with_reducible apply readK_r | with_reducible apply writeK_r | with_reducible apply repK_r | with_reducible apply ofV_r | with_reducible apply tiK_r | with_reducible apply evK_r | with_reducible apply_assumption | contradiction | (split <;> (try dsimp only)))
theorem strOp_r {β γ : Type} {kk : γ → R β} {op : BinOp} {x y : List UInt8} {k : Value → R β} {K : Value → R γ} (h : ∀ x, Le kk (k x) (K x)) : Le kk (strOp op x y k) (strOp op x y K) := by
  unfold strOp
  repeat' (first | with_reducible exact Le.er | with_reducible exact Le.ret | with_reducible exact h _ | intro _ | with_reducible apply natC_r | with_reducible apply boolC_r | with_reducible apply getK_r | with_reducible apply setK_r | with_reducible apply forceN_r | with_reducible apply forceI_r | with_reducible apply forceV_r | with_reducible apply mapK_r | with_reducible apply appK_r | with_reducible apply lenK_r | with_reducible apply nthK_r | with_reducible apply takeK_r | with_reducible apply dropK_r | with_reducible apply newK_r | with_reducible apply objK_r | with_reducible apply updK_r | with_reducible apply readK_r | with_reducible apply writeK_r | with_reducible apply repK_r | with_reducible apply ofV_r | with_reducible apply tiK_r | with_reducible apply evK_r | with_reducible apply pureV_r | with_reducible apply_assumption | contradiction | (split <;> (try dsimp only)))
theorem neg1_r {β γ : Type} {kk : γ → R β} {op : BinOp} {b : Bool} {k : Value → R β} {K : Value → R γ} (h : ∀ x, Le kk (k x) (K x)) : Le kk (neg1 op b k) (neg1 op b K) := by
  unfold neg1
  repeat' (first | with_reducible exact Le.er | with_reducible exact Le.ret | with_reducible exact h _ | intro _ | with_reducible apply natC_r | with_reducible apply boolC_r | with_reducible apply getK_r | with_reducible apply setK_r | with_reducible apply forceN_r | with_reducible apply forceI_r | with_reducible apply forceV_r | with_reducible apply mapK_r | with_reducible apply appK_r | with_reducible apply lenK_r | with_reducible apply nthK_r | with_reducible apply takeK_r | with_reducible apply dropK_r | with_reducible apply newK_r | with_reducible apply objK_r | with_reducible apply updK_r | with_reducible apply readK_r | with_reducible apply writeK_r | with_reducible apply repK_r | with_reducible apply ofV_r | with_reducible apply tiK_r | with_reducible apply evK_r | with_reducible apply pureV_r | with_reducible apply strOp_r | with_reducible apply_assumption | contradiction | (split <;> (try dsimp only)))
theorem litL_r {β γ : Type} {kk : γ → R β} {l : List AV} {k : List Value → R β} {K : List Value → R γ} (h : ∀ x, Le kk (k x) (K x)) : Le kk (litL l k) (litL l K) := by
  unfold litL
  refine mapK_r (fun a g G hg => ?_) h
  split
  · exact hg _
  · exact Le.er
theorem keyK_r {E : Env} {β γ : Type} {kk : γ → R β} {kt : TypeId} {v : AV} {k : Value → R β} {K : Value → R γ} (h : ∀ x, Le kk (k x) (K x)) : Le kk (keyK E kt v k) (keyK E kt v K) := by
  unfold keyK
  repeat' (first | with_reducible exact Le.er | with_reducible exact Le.ret | with_reducible exact h _ | intro _ | with_reducible apply natC_r | with_reducible apply boolC_r | with_reducible apply getK_r | with_reducible apply setK_r | with_reducible apply forceN_r | with_reducible apply forceI_r | with_reducible apply forceV_r | with_reducible apply mapK_r | with_reducible apply appK_r | with_reducible apply lenK_r | with_reducible apply nthK_r | with_reducible apply takeK_r | with_reducible apply dropK_r | with_reducible apply newK_r | with_reducible apply objK_r | with_reducible apply updK_r | with_reducible apply readK_r | with_reducible apply writeK_r | with_reducible apply repK_r | with_reducible apply ofV_r | with_reducible apply tiK_r | with_reducible apply evK_r | with_reducible apply pureV_r | with_reducible apply strOp_r | with_reducible apply neg1_r | with_reducible apply litL_r | with_reducible apply_assumption | contradiction | (split <;> (try dsimp only)))
theorem eqlK_r {E : Env} {β γ : Type} {kk : γ → R β} {op : BinOp} {t : TypeId} {x y : AV} {k : Value → R β} {K : Value → R γ} (h : ∀ x, Le kk (k x) (K x)) : Le kk (eqlK E op t x y k) (eqlK E op t x y K) := by
  unfold eqlK
  repeat' (first | with_reducible exact Le.er | with_reducible exact Le.ret | with_reducible exact h _ | intro _ | with_reducible apply natC_r | with_reducible apply boolC_r | with_reducible apply getK_r | with_reducible apply setK_r | with_reducible apply forceN_r | with_reducible apply forceI_r | with_reducible apply forceV_r | with_reducible apply mapK_r | with_reducible apply appK_r | with_reducible apply lenK_r | with_reducible apply nthK_r | with_reducible apply takeK_r | with_reducible apply dropK_r | with_reducible apply newK_r | with_reducible apply objK_r | with_reducible apply updK_r | with_reducible apply readK_r | with_reducible apply writeK_r | with_reducible apply repK_r | with_reducible apply ofV_r | with_reducible apply tiK_r | with_reducible apply evK_r | with_reducible apply pureV_r | with_reducible apply strOp_r | with_reducible apply neg1_r | with_reducible apply litL_r | with_reducible apply keyK_r | with_reducible apply_assumption | contradiction | (split <;> (try dsimp only)))
theorem layK_r {β γ : Type} {kk : γ → R β} {off : Nat} {l c : List AV} {k : List AV → R β} {K : List AV → R γ} (h : ∀ x, Le kk (k x) (K x)) : Le kk (layK off l c k) (layK off l c K) := by
  unfold layK
  repeat' (first | with_reducible exact Le.er | with_reducible exact Le.ret | with_reducible exact h _ | intro _ | with_reducible apply natC_r | with_reducible apply boolC_r | with_reducible apply getK_r | with_reducible apply setK_r | with_reducible apply forceN_r | with_reducible apply forceI_r | with_reducible apply forceV_r | with_reducible apply mapK_r | with_reducible apply appK_r | with_reducible apply lenK_r | with_reducible apply nthK_r | with_reducible apply takeK_r | with_reducible apply dropK_r | with_reducible apply newK_r | with_reducible apply objK_r | with_reducible apply updK_r | with_reducible apply readK_r | with_reducible apply writeK_r | with_reducible apply repK_r | with_reducible apply ofV_r | with_reducible apply tiK_r | with_reducible apply evK_r | with_reducible apply pureV_r | with_reducible apply strOp_r | with_reducible apply neg1_r | with_reducible apply litL_r | with_reducible apply keyK_r | with_reducible apply eqlK_r | with_reducible apply_assumption | contradiction | (split <;> (try dsimp only)))
theorem fillK_r {E : Env} {β γ : Type} {kk : γ → R β} {fr : Tr AV} {place : Nat → (Nat → Nat → R β) → R β} {place' : Nat → (Nat → Nat → R γ) → R γ} {parts : List (Nat × Operand)} {cells : List AV} {k : List AV → R β} {K : List AV → R γ} (hp : ∀ i g G, (∀ a b, Le kk (g a b) (G a b)) → Le kk (place i g) (place' i G)) (h : ∀ x, Le kk (k x) (K x)) : Le kk (fillK E fr place parts cells k) (fillK E fr place' parts cells K) := by
  induction parts generalizing cells with
  | nil => exact h cells
  | cons p l ih =>
    obtain ⟨i, x⟩ := p
    exact evK_r fun v => hp i _ _ fun off size => lenK_r fun m => boolC_r Le.er (boolC_r Le.er (layK_r fun c => ih (cells := c)))
theorem fillT_r {E : Env} {β γ : Type} {kk : γ → R β} {fr : Tr AV} {size len : Nat} {parts : List (Nat × Operand)} {t : Tr AV} {k : Tr AV → R β} {K : Tr AV → R γ} (h : ∀ x, Le kk (k x) (K x)) : Le kk (fillT E fr size len parts t k) (fillT E fr size len parts t K) := by
  induction parts generalizing t with
  | nil => exact h t
  | cons p l ih =>
    obtain ⟨i, x⟩ := p
    exact evK_r fun v => lenK_r fun m => boolC_r Le.er (boolC_r Le.er (boolC_r Le.er (writeK_r fun c => ih (t := c))))
theorem fieldK_r {E : Env} {β γ : Type} {kk : γ → R β} {t : TypeId} {f : Nat} {k : Nat → Nat → Bool → R β} {K : Nat → Nat → Bool → R γ} (h : ∀ x y z, Le kk (k x y z) (K x y z)) : Le kk (fieldK E t f k) (fieldK E t f K) := by
  unfold fieldK
  repeat' (first | with_reducible exact Le.er | with_reducible exact Le.ret | with_reducible exact h _ _ _ | intro _ | with_reducible apply natC_r | with_reducible apply boolC_r | with_reducible apply getK_r | with_reducible apply setK_r | with_reducible apply forceN_r | with_reducible apply forceI_r | with_reducible apply forceV_r | with_reducible apply mapK_r | with_reducible apply appK_r | with_reducible apply lenK_r | with_reducible apply nthK_r | with_reducible apply takeK_r | with_reducible apply dropK_r | with_reducible apply newK_r | with_reducible apply objK_r | with_reducible apply updK_r | with_reducible apply readK_r | with_reducible apply writeK_r | with_reducible apply repK_r | with_reducible apply ofV_r | with_reducible apply tiK_r | with_reducible apply evK_r | with_reducible apply pureV_r | with_reducible apply strOp_r | with_reducible apply neg1_r | with_reducible apply litL_r | with_reducible apply keyK_r | with_reducible apply eqlK_r | with_reducible apply layK_r | with_reducible apply fillK_r | with_reducible apply fillT_r | with_reducible apply_assumption | contradiction | (split <;> (try dsimp only)))
theorem natK_r {β γ : Type} {kk : γ → R β} {v : AV} {k : Nat → R β} {K : Nat → R γ} (h : ∀ x, Le kk (k x) (K x)) : Le kk (natK v k) (natK v K) := by
  unfold natK
  repeat' (first | with_reducible exact Le.er | with_reducible exact Le.ret | with_reducible exact h _ | intro _ | with_reducible apply natC_r | with_reducible apply boolC_r | with_reducible apply getK_r | with_reducible apply setK_r | with_reducible apply forceN_r | with_reducible apply forceI_r | with_reducible apply forceV_r | with_reducible apply mapK_r | with_reducible apply appK_r | with_reducible apply lenK_r | with_reducible apply nthK_r | with_reducible apply takeK_r | with_reducible apply dropK_r | with_reducible apply newK_r | with_reducible apply objK_r | with_reducible apply updK_r | with_reducible apply readK_r | with_reducible apply writeK_r | with_reducible apply repK_r | with_reducible apply ofV_r | with_reducible apply tiK_r | with_reducible apply evK_r | with_reducible apply pureV_r | with_reducible apply strOp_r | with_reducible apply neg1_r | with_reducible apply litL_r | with_reducible apply keyK_r | with_reducible apply eqlK_r | with_reducible apply layK_r | with_reducible apply fillK_r | with_reducible apply fillT_r | with_reducible apply fieldK_r | with_reducible apply_assumption | contradiction | (split <;> (try dsimp only)))
theorem loadK_r {E : Env} {β γ : Type} {kk : γ → R β} {t : TypeId} {a : AV} {H : AH} {k : AV → R β} {K : AV → R γ} (h : ∀ x, Le kk (k x) (K x)) : Le kk (loadK E t a H k) (loadK E t a H K) := by
  unfold loadK
  repeat' (first | with_reducible exact Le.er | with_reducible exact Le.ret | with_reducible exact h _ | intro _ | with_reducible apply natC_r | with_reducible apply boolC_r | with_reducible apply getK_r | with_reducible apply setK_r | with_reducible apply forceN_r | with_reducible apply forceI_r | with_reducible apply forceV_r | with_reducible apply mapK_r | with_reducible apply appK_r | with_reducible apply lenK_r | with_reducible apply nthK_r | with_reducible apply takeK_r | with_reducible apply dropK_r | with_reducible apply newK_r | with_reducible apply objK_r | with_reducible apply updK_r | with_reducible apply readK_r | with_reducible apply writeK_r | with_reducible apply repK_r | with_reducible apply ofV_r | with_reducible apply tiK_r | with_reducible apply evK_r | with_reducible apply pureV_r | with_reducible apply strOp_r | with_reducible apply neg1_r | with_reducible apply litL_r | with_reducible apply keyK_r | with_reducible apply eqlK_r | with_reducible apply layK_r | with_reducible apply fillK_r | with_reducible apply fillT_r | with_reducible apply fieldK_r | with_reducible apply natK_r | with_reducible apply_assumption | contradiction | (split <;> (try dsimp only)))
theorem storeK_r {E : Env} {β γ : Type} {kk : γ → R β} {t : TypeId} {a x : AV} {H : AH} {k : AH → R β} {K : AH → R γ} (h : ∀ x, Le kk (k x) (K x)) : Le kk (storeK E t a x H k) (storeK E t a x H K) := by
  unfold storeK
  repeat' (first | with_reducible exact Le.er | with_reducible exact Le.ret | with_reducible exact h _ | intro _ | with_reducible apply natC_r | with_reducible apply boolC_r | with_reducible apply getK_r | with_reducible apply setK_r | with_reducible apply forceN_r | with_reducible apply forceI_r | with_reducible apply forceV_r | with_reducible apply mapK_r | with_reducible apply appK_r | with_reducible apply lenK_r | with_reducible apply nthK_r | with_reducible apply takeK_r | with_reducible apply dropK_r | with_reducible apply newK_r | with_reducible apply objK_r | with_reducible apply updK_r | with_reducible apply readK_r | with_reducible apply writeK_r | with_reducible apply repK_r | with_reducible apply ofV_r | with_reducible apply tiK_r | with_reducible apply evK_r | with_reducible apply pureV_r | with_reducible apply strOp_r | with_reducible apply neg1_r | with_reducible apply litL_r | with_reducible apply keyK_r | with_reducible apply eqlK_r | with_reducible apply layK_r | with_reducible apply fillK_r | with_reducible apply fillT_r | with_reducible apply fieldK_r | with_reducible apply natK_r | with_reducible apply loadK_r | with_reducible apply_assumption | contradiction | (split <;> (try dsimp only)))
theorem lookL_r {β γ : Type} {kk : γ → R β} {key : Value} {l : List AE} {k : Nat → AV → R β} {K : Nat → AV → R γ} {d : Unit → R β} {D : Unit → R γ} (h : ∀ x y, Le kk (k x y) (K x y)) (hd : ∀ u, Le kk (d u) (D u)) : Le kk (lookL key l k d) (lookL key l K D) := by
  induction l with
  | nil => exact hd ()
  | cons p l ih =>
    obtain ⟨x, b, u⟩ := p
    exact boolC_r ih (h _ _)
theorem putL_r {β γ : Type} {kk : γ → R β} {c : Nat} {key : Value} {v : AV} {l : List AE} {k : Nat → List AE → R β} {K : Nat → List AE → R γ} (h : ∀ x y, Le kk (k x y) (K x y)) : Le kk (putL c key v l k) (putL c key v l K) := by
  induction l generalizing k K with
  | nil => exact forceN_r (n := Nat.succ c) (k := fun c' => k c' [⟨key, c, v⟩]) (K := fun c' => K c' [⟨key, c, v⟩]) fun c' => h _ _
  | cons p l ih =>
    obtain ⟨x, b, u⟩ := p
    exact boolC_r (ih fun c' r => h _ _) (h _ _)
theorem dropL_r {β γ : Type} {kk : γ → R β} {key : Value} {l : List AE} {k : List AE → R β} {K : List AE → R γ} (h : ∀ x, Le kk (k x) (K x)) : Le kk (dropL key l k) (dropL key l K) := by
  induction l generalizing k K with
  | nil => exact h _
  | cons p l ih =>
    obtain ⟨x, b, u⟩ := p
    exact boolC_r (ih fun r => h _) (h _)
theorem stampL_r {β γ : Type} {kk : γ → R β} {n : Nat} {v : AV} {l : List AE} {k : List AE → R β} {K : List AE → R γ} (h : ∀ x, Le kk (k x) (K x)) : Le kk (stampL n v l k) (stampL n v l K) := by
  induction l generalizing k K with
  | nil => exact Le.er
  | cons p l ih =>
    obtain ⟨x, b, u⟩ := p
    exact boolC_r (ih fun r => h _) (h _)
theorem zeroA_r {β γ : Type} {kk : γ → R β} {d : TypeDesc} {z : List AV} {k : AV → R β} {K : AV → R γ} (h : ∀ x, Le kk (k x) (K x)) : Le kk (zeroA d z k) (zeroA d z K) := by
  unfold zeroA
  repeat' (first | with_reducible exact Le.er | with_reducible exact Le.ret | with_reducible exact h _ | intro _ | with_reducible apply natC_r | with_reducible apply boolC_r | with_reducible apply getK_r | with_reducible apply setK_r | with_reducible apply forceN_r | with_reducible apply forceI_r | with_reducible apply forceV_r | with_reducible apply mapK_r | with_reducible apply appK_r | with_reducible apply lenK_r | with_reducible apply nthK_r | with_reducible apply takeK_r | with_reducible apply dropK_r | with_reducible apply newK_r | with_reducible apply objK_r | with_reducible apply updK_r | with_reducible apply readK_r | with_reducible apply writeK_r | with_reducible apply repK_r | with_reducible apply ofV_r | with_reducible apply tiK_r | with_reducible apply evK_r | with_reducible apply pureV_r | with_reducible apply strOp_r | with_reducible apply neg1_r | with_reducible apply litL_r | with_reducible apply keyK_r | with_reducible apply eqlK_r | with_reducible apply layK_r | with_reducible apply fillK_r | with_reducible apply fillT_r | with_reducible apply fieldK_r | with_reducible apply natK_r | with_reducible apply loadK_r | with_reducible apply storeK_r | with_reducible apply lookL_r | with_reducible apply putL_r | with_reducible apply dropL_r | with_reducible apply stampL_r | with_reducible apply_assumption | contradiction | (split <;> (try dsimp only)))
theorem mapOf_r {E : Env} {β γ : Type} {kk : γ → R β} {t : TypeId} {m : AV} {H : AH} {k : TypeId → TypeId → Nat → List AE → R β} {K : TypeId → TypeId → Nat → List AE → R γ} (h : ∀ a b c d, Le kk (k a b c d) (K a b c d)) : Le kk (mapOf E t m H k) (mapOf E t m H K) := by
  unfold mapOf
  repeat' (first | with_reducible exact Le.er | with_reducible exact Le.ret | with_reducible exact h _ _ _ _ | intro _ | with_reducible apply natC_r | with_reducible apply boolC_r | with_reducible apply getK_r | with_reducible apply setK_r | with_reducible apply forceN_r | with_reducible apply forceI_r | with_reducible apply forceV_r | with_reducible apply mapK_r | with_reducible apply appK_r | with_reducible apply lenK_r | with_reducible apply nthK_r | with_reducible apply takeK_r | with_reducible apply dropK_r | with_reducible apply newK_r | with_reducible apply objK_r | with_reducible apply updK_r | with_reducible apply readK_r | with_reducible apply writeK_r | with_reducible apply repK_r | with_reducible apply ofV_r | with_reducible apply tiK_r | with_reducible apply evK_r | with_reducible apply pureV_r | with_reducible apply strOp_r | with_reducible apply neg1_r | with_reducible apply litL_r | with_reducible apply keyK_r | with_reducible apply eqlK_r | with_reducible apply layK_r | with_reducible apply fillK_r | with_reducible apply fillT_r | with_reducible apply fieldK_r | with_reducible apply natK_r | with_reducible apply loadK_r | with_reducible apply storeK_r | with_reducible apply lookL_r | with_reducible apply putL_r | with_reducible apply dropL_r | with_reducible apply stampL_r | with_reducible apply zeroA_r | with_reducible apply_assumption | contradiction | (split <;> (try dsimp only)))
theorem sliceCells_r {β γ : Type} {kk : γ → R β} {es : Nat} {x : AV} {H : AH} {k : Nat → List AV → R β} {K : Nat → List AV → R γ} (h : ∀ a b, Le kk (k a b) (K a b)) : Le kk (sliceCells es x H k) (sliceCells es x H K) := by
  unfold sliceCells
  repeat' (first | with_reducible exact Le.er | with_reducible exact Le.ret | with_reducible exact h _ _ | intro _ | with_reducible apply natC_r | with_reducible apply boolC_r | with_reducible apply getK_r | with_reducible apply setK_r | with_reducible apply forceN_r | with_reducible apply forceI_r | with_reducible apply forceV_r | with_reducible apply mapK_r | with_reducible apply appK_r | with_reducible apply lenK_r | with_reducible apply nthK_r | with_reducible apply takeK_r | with_reducible apply dropK_r | with_reducible apply newK_r | with_reducible apply objK_r | with_reducible apply updK_r | with_reducible apply readK_r | with_reducible apply writeK_r | with_reducible apply repK_r | with_reducible apply ofV_r | with_reducible apply tiK_r | with_reducible apply evK_r | with_reducible apply pureV_r | with_reducible apply strOp_r | with_reducible apply neg1_r | with_reducible apply litL_r | with_reducible apply keyK_r | with_reducible apply eqlK_r | with_reducible apply layK_r | with_reducible apply fillK_r | with_reducible apply fillT_r | with_reducible apply fieldK_r | with_reducible apply natK_r | with_reducible apply loadK_r | with_reducible apply storeK_r | with_reducible apply lookL_r | with_reducible apply putL_r | with_reducible apply dropL_r | with_reducible apply stampL_r | with_reducible apply zeroA_r | with_reducible apply mapOf_r | with_reducible apply_assumption | contradiction | (split <;> (try dsimp only)))
theorem elemOf_r {E : Env} {β γ : Type} {kk : γ → R β} {t : TypeId} {k : TypeId → TypeDesc → Nat → Nat → List AV → R β} {K : TypeId → TypeDesc → Nat → Nat → List AV → R γ} (h : ∀ a b c d e, Le kk (k a b c d e) (K a b c d e)) : Le kk (elemOf' E t k) (elemOf' E t K) := by
  unfold elemOf'
  repeat' (first | with_reducible exact Le.er | with_reducible exact Le.ret | with_reducible exact h _ _ _ _ _ | intro _ | with_reducible apply natC_r | with_reducible apply boolC_r | with_reducible apply getK_r | with_reducible apply setK_r | with_reducible apply forceN_r | with_reducible apply forceI_r | with_reducible apply forceV_r | with_reducible apply mapK_r | with_reducible apply appK_r | with_reducible apply lenK_r | with_reducible apply nthK_r | with_reducible apply takeK_r | with_reducible apply dropK_r | with_reducible apply newK_r | with_reducible apply objK_r | with_reducible apply updK_r | with_reducible apply readK_r | with_reducible apply writeK_r | with_reducible apply repK_r | with_reducible apply ofV_r | with_reducible apply tiK_r | with_reducible apply evK_r | with_reducible apply pureV_r | with_reducible apply strOp_r | with_reducible apply neg1_r | with_reducible apply litL_r | with_reducible apply keyK_r | with_reducible apply eqlK_r | with_reducible apply layK_r | with_reducible apply fillK_r | with_reducible apply fillT_r | with_reducible apply fieldK_r | with_reducible apply natK_r | with_reducible apply loadK_r | with_reducible apply storeK_r | with_reducible apply lookL_r | with_reducible apply putL_r | with_reducible apply dropL_r | with_reducible apply stampL_r | with_reducible apply zeroA_r | with_reducible apply mapOf_r | with_reducible apply sliceCells_r | with_reducible apply_assumption | contradiction | (split <;> (try dsimp only)))
theorem firstK_r {β γ : Type} {kk : γ → R β} {es m : Nat} {x : AV} {H : AH} {k : List AV → R β} {K : List AV → R γ} (h : ∀ a, Le kk (k a) (K a)) : Le kk (firstK es m x H k) (firstK es m x H K) := by
  unfold firstK
  repeat' (first | with_reducible exact Le.er | with_reducible exact Le.ret | with_reducible exact h _ | intro _ | with_reducible apply natC_r | with_reducible apply boolC_r | with_reducible apply getK_r | with_reducible apply setK_r | with_reducible apply forceN_r | with_reducible apply forceI_r | with_reducible apply forceV_r | with_reducible apply mapK_r | with_reducible apply appK_r | with_reducible apply lenK_r | with_reducible apply nthK_r | with_reducible apply takeK_r | with_reducible apply dropK_r | with_reducible apply newK_r | with_reducible apply objK_r | with_reducible apply updK_r | with_reducible apply readK_r | with_reducible apply writeK_r | with_reducible apply repK_r | with_reducible apply ofV_r | with_reducible apply tiK_r | with_reducible apply evK_r | with_reducible apply pureV_r | with_reducible apply strOp_r | with_reducible apply neg1_r | with_reducible apply litL_r | with_reducible apply keyK_r | with_reducible apply eqlK_r | with_reducible apply layK_r | with_reducible apply fillK_r | with_reducible apply fillT_r | with_reducible apply fieldK_r | with_reducible apply natK_r | with_reducible apply loadK_r | with_reducible apply storeK_r | with_reducible apply lookL_r | with_reducible apply putL_r | with_reducible apply dropL_r | with_reducible apply stampL_r | with_reducible apply zeroA_r | with_reducible apply mapOf_r | with_reducible apply sliceCells_r | with_reducible apply elemOf_r | with_reducible apply_assumption | contradiction | (split <;> (try dsimp only)))
theorem lenS_r {β γ : Type} {kk : γ → R β} {x : AV} {k : Nat → R β} {K : Nat → R γ} (h : ∀ a, Le kk (k a) (K a)) : Le kk (lenS x k) (lenS x K) := by
  unfold lenS
  repeat' (first | with_reducible exact Le.er | with_reducible exact Le.ret | with_reducible exact h _ | intro _ | with_reducible apply natC_r | with_reducible apply boolC_r | with_reducible apply getK_r | with_reducible apply setK_r | with_reducible apply forceN_r | with_reducible apply forceI_r | with_reducible apply forceV_r | with_reducible apply mapK_r | with_reducible apply appK_r | with_reducible apply lenK_r | with_reducible apply nthK_r | with_reducible apply takeK_r | with_reducible apply dropK_r | with_reducible apply newK_r | with_reducible apply objK_r | with_reducible apply updK_r | with_reducible apply readK_r | with_reducible apply writeK_r | with_reducible apply repK_r | with_reducible apply ofV_r | with_reducible apply tiK_r | with_reducible apply evK_r | with_reducible apply pureV_r | with_reducible apply strOp_r | with_reducible apply neg1_r | with_reducible apply litL_r | with_reducible apply keyK_r | with_reducible apply eqlK_r | with_reducible apply layK_r | with_reducible apply fillK_r | with_reducible apply fillT_r | with_reducible apply fieldK_r | with_reducible apply natK_r | with_reducible apply loadK_r | with_reducible apply storeK_r | with_reducible apply lookL_r | with_reducible apply putL_r | with_reducible apply dropL_r | with_reducible apply stampL_r | with_reducible apply zeroA_r | with_reducible apply mapOf_r | with_reducible apply sliceCells_r | with_reducible apply elemOf_r | with_reducible apply firstK_r | with_reducible apply_assumption | contradiction | (split <;> (try dsimp only)))
theorem optK_r {E : Env} {β γ : Type} {kk : γ → R β} {fr : Tr AV} {x : Option Operand} {d : Nat} {k : Nat → R β} {K : Nat → R γ} (h : ∀ a, Le kk (k a) (K a)) : Le kk (optK E fr x d k) (optK E fr x d K) := by
  unfold optK
  repeat' (first | with_reducible exact Le.er | with_reducible exact Le.ret | with_reducible exact h _ | intro _ | with_reducible apply natC_r | with_reducible apply boolC_r | with_reducible apply getK_r | with_reducible apply setK_r | with_reducible apply forceN_r | with_reducible apply forceI_r | with_reducible apply forceV_r | with_reducible apply mapK_r | with_reducible apply appK_r | with_reducible apply lenK_r | with_reducible apply nthK_r | with_reducible apply takeK_r | with_reducible apply dropK_r | with_reducible apply newK_r | with_reducible apply objK_r | with_reducible apply updK_r | with_reducible apply readK_r | with_reducible apply writeK_r | with_reducible apply repK_r | with_reducible apply ofV_r | with_reducible apply tiK_r | with_reducible apply evK_r | with_reducible apply pureV_r | with_reducible apply strOp_r | with_reducible apply neg1_r | with_reducible apply litL_r | with_reducible apply keyK_r | with_reducible apply eqlK_r | with_reducible apply layK_r | with_reducible apply fillK_r | with_reducible apply fillT_r | with_reducible apply fieldK_r | with_reducible apply natK_r | with_reducible apply loadK_r | with_reducible apply storeK_r | with_reducible apply lookL_r | with_reducible apply putL_r | with_reducible apply dropL_r | with_reducible apply stampL_r | with_reducible apply zeroA_r | with_reducible apply mapOf_r | with_reducible apply sliceCells_r | with_reducible apply elemOf_r | with_reducible apply firstK_r | with_reducible apply lenS_r | with_reducible apply_assumption | contradiction | (split <;> (try dsimp only)))
theorem partK_r {β γ : Type} {kk : γ → R β} {off s : Nat} {ag : Bool} {l : List AV} {k : AV → R β} {K : AV → R γ} (h : ∀ a, Le kk (k a) (K a)) : Le kk (partK off s ag l k) (partK off s ag l K) := by
  unfold partK
  repeat' (first | with_reducible exact Le.er | with_reducible exact Le.ret | with_reducible exact h _ | intro _ | with_reducible apply natC_r | with_reducible apply boolC_r | with_reducible apply getK_r | with_reducible apply setK_r | with_reducible apply forceN_r | with_reducible apply forceI_r | with_reducible apply forceV_r | with_reducible apply mapK_r | with_reducible apply appK_r | with_reducible apply lenK_r | with_reducible apply nthK_r | with_reducible apply takeK_r | with_reducible apply dropK_r | with_reducible apply newK_r | with_reducible apply objK_r | with_reducible apply updK_r | with_reducible apply readK_r | with_reducible apply writeK_r | with_reducible apply repK_r | with_reducible apply ofV_r | with_reducible apply tiK_r | with_reducible apply evK_r | with_reducible apply pureV_r | with_reducible apply strOp_r | with_reducible apply neg1_r | with_reducible apply litL_r | with_reducible apply keyK_r | with_reducible apply eqlK_r | with_reducible apply layK_r | with_reducible apply fillK_r | with_reducible apply fillT_r | with_reducible apply fieldK_r | with_reducible apply natK_r | with_reducible apply loadK_r | with_reducible apply storeK_r | with_reducible apply lookL_r | with_reducible apply putL_r | with_reducible apply dropL_r | with_reducible apply stampL_r | with_reducible apply zeroA_r | with_reducible apply mapOf_r | with_reducible apply sliceCells_r | with_reducible apply elemOf_r | with_reducible apply firstK_r | with_reducible apply lenS_r | with_reducible apply optK_r | with_reducible apply_assumption | contradiction | (split <;> (try dsimp only)))

end Go.Proofs.YtclljjfkaljdnaaGreatDoor
