/- The evaluator's tables, out of a program. No program in sight. -/
import Derived.Test.YtclljjfkaljdnaaGreatDoorE2
namespace Go.Proofs.YtclljjfkaljdnaaGreatDoor
open Go.RowKit

/-- A row of things by their places. -/
noncomputable def rowK {α γ β : Type} (f : α → (Option γ → R β) → R β) (l : List α) (k : Tr γ → R β) : R β :=
  listR (γ := Nat) (β := Tr γ → R β) (fun _ t => k t) (fun a _ ih i t => f a fun v => setK 64 t i v (fun t' => forceN (Nat.succ i) fun i' => ih i' t') (.er [200])) l 0 .e
noncomputable def pairsK {α γ β : Type} (f : α → (γ → R β) → R β) (l : List (Nat × α)) (k : Tr γ → R β) : R β :=
  listR (γ := Tr γ) (β := R β) k (fun p _ ih t => match p with | (i, a) => f a fun v => setK 64 t i (some v) ih (.er [201])) l .e
noncomputable def descK {β : Type} (ts : List TypeInfo) (d : TypeDesc) (k : TypeDesc → R β) : R β :=
  match d with
  | .named _ u => nthK ts u (fun i => k i.desc) (.er [202])
  | d => k d
noncomputable def fldsB (n : Nat) (d : TypeDesc) : Bool :=
  match d with
  | .struct fs => listR (γ := Unit) (β := Bool) (fun _ => true) (fun f _ ih u => boolC false (ih u) (Nat.blt f.type n)) fs.toList ()
  | _ => true
noncomputable def tiOf {β : Type} (n : Nat) (ts : List TypeInfo) (i : TypeInfo) (k : Option TI → R β) : R β :=
  descK ts i.desc fun d => match i.zero with
    | none => k none
    | some z => boolC (k none) (match z with
      | .agg cs => mapK (fun v k => k (AV.lit v)) cs.toList fun l => lenK l fun n => boolC (k none) (boolC (k none) (boolC (k none) (k (some ⟨d, i.size, i.bytes, l⟩)) (allCell l)) (Nat.beq n i.size)) (isAggD d)
      | z => boolC (boolC (k none) (boolC (k none) (k (some ⟨d, i.size, i.bytes, [.lit z]⟩)) (isCell (.lit z))) (Nat.beq i.size 1)) (k none) (isAggD d)) (fldsB n d)
abbrev Plans := List (Nat × List (Nat × List PStep))
noncomputable def plansK {β : Type} (l : Plans) (k : Tr (Tr (List PStep)) → R β) : R β := pairsK (fun l k => pairsK (fun p k => k p) l k) l k
noncomputable def envK {β : Type} (P : Program) (pl : Plans) (ky : List (Nat × KS)) (hk : List (Nat × Nat)) (k : Env → R β) : R β :=
  lenK P.types.toList fun n => rowK (tiOf n P.types.toList) P.types.toList fun tt => rowK (fun f k => k (some f)) P.funcs.toList fun ft => plansK pl fun pl => pairsK (fun v k => k v) ky fun ky => pairsK (fun v k => k v) hk fun hk =>
    pairsK (fun v k => k v) [(0, 0)] fun gl => k ⟨tt, ft, gl, pl, ky, hk, 1000000⟩
/-- The heap at the start: the one table of the library's. -/
noncomputable def heapK {β : Type} (tab : List Nat) (k : AH → R β) : R β :=
  mapK (fun n k => k (AV.lit (.int .u8 (.ofNat n)))) tab fun l => writeK .e 0 l fun t => lenK l fun n => newK ⟨0, .e⟩ (.cells n t true) fun _ H => k H
noncomputable def runK (P : Program) (pl : Plans) (ky : List (Nat × KS)) (hk : List (Nat × Nat)) (tab : List Nat) (fuel : Nat) (f : FuncId) (args : List AV) : R (AV × AH) :=
  envK P pl ky hk fun E => heapK tab fun H => goK E fuel (.call f args) H
noncomputable def isTrue (r : R (AV × AH)) : Bool :=
  match r with
  | .ok p => (match p with | (v, _) => match v with | .lit (.bool b) => b | _ => false)
  | .er _ => false
end Go.Proofs.YtclljjfkaljdnaaGreatDoor
