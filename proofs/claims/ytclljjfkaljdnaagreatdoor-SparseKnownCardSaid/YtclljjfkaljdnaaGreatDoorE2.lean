/- The evaluator for closed runs. No program in sight. -/
import Derived.Test.YtclljjfkaljdnaaGreatDoorE1
namespace Go.Proofs.YtclljjfkaljdnaaGreatDoor
open Go.RowKit

instance {α : Type} : Inhabited (R α) := ⟨.er []⟩

/-- A key type's shape. -/
inductive KC where
  | i (k : IntKind)
  | s
  | b
inductive KS where
  | one (c : KC)
  | agg (l : List KC)

structure Env where
  tt : Tr TI
  ft : Tr Func
  gl : Tr Nat
  pl : Tr (Tr (List PStep))
  ky : Tr KS
  hk : Tr Nat
  lim : Nat

--KERNEL
noncomputable def forceV {β : Type} (v : Value) (k : Value → β) : β :=
  match v with
  | .int j n => forceI n fun n' => k (.int j n')
  | .bool b => boolC (k (.bool false)) (k (.bool true)) b
  | v => k v
noncomputable def eqI (a b : Int) : Bool :=
  Int.rec (motive := fun _ => Bool) (fun x => Int.rec (motive := fun _ => Bool) (fun y => Nat.beq x y) (fun _ => false) b) (fun x => Int.rec (motive := fun _ => Bool) (fun _ => false) (fun y => Nat.beq x y) b) a
noncomputable def eqB (a : List UInt8) : List UInt8 → Bool :=
  List.rec (motive := fun _ => List UInt8 → Bool) (fun b => List.rec (motive := fun _ => Bool) true (fun _ _ _ => false) b)
    (fun x _ ih b => List.rec (motive := fun _ => Bool) false (fun y b' _ => boolC false (ih b') (Nat.beq x.toNat y.toNat)) b) a
noncomputable def ltB (a : List UInt8) : List UInt8 → Bool :=
  List.rec (motive := fun _ => List UInt8 → Bool) (fun b => List.rec (motive := fun _ => Bool) false (fun _ _ _ => true) b)
    (fun x _ ih b => List.rec (motive := fun _ => Bool) false (fun y b' _ => boolC (boolC false (ih b') (Nat.beq x.toNat y.toNat)) true (Nat.blt x.toNat y.toNat)) b) a
--DEBUG @[inline] def forceV {β : Type} (v : Value) (k : Value → β) : β := k v
--DEBUG def eqI (a b : Int) : Bool := a == b
--DEBUG def eqB : List UInt8 → List UInt8 → Bool | [], [] => true | x :: a, y :: b => x == y && eqB a b | _, _ => false
--DEBUG def ltB (a b : List UInt8) : Bool := Op.bytesLess a b
--END

noncomputable def eqS (a b : Value) : Bool :=
  match a, b with
  | .int j x, .int k y => boolC false (eqI x y) (j == k)
  | .string x, .string y => eqB x.data.toList y.data.toList
  | .bool x, .bool y => boolC (boolC true false y) y x
  | _, _ => false
noncomputable def eqL : List Value → List Value → Bool :=
  listR (fun b => match b with | [] => true | _ :: _ => false) (fun x _ ih b => match b with | [] => false | y :: b' => boolC false (ih b') (eqS x y))
noncomputable def eqKV (a b : Value) : Bool :=
  match a, b with
  | .agg x, .agg y => eqL x.toList y.toList
  | a, b => eqS a b
/-- Two values are the same: for what is asked twice. -/
noncomputable def eqA1 (a b : AV) : Bool :=
  match a, b with
  | .lit x, .lit y => match x, y with
    | .pointer none, .pointer none => true
    | .slice none m c, .slice none n d => boolC false (Nat.beq c d) (Nat.beq m n)
    | .map none, .map none => true
    | .nilFunc, .nilFunc => true
    | x, y => eqS x y
  | .ptr i x, .ptr j y => boolC false (Nat.beq x y) (Nat.beq i j)
  | .sl i x e l c ex, .sl i' x' e' l' c' ex' => boolC false (boolC false (boolC false (boolC false (boolC false (boolC (boolC true false ex') ex' ex) (Nat.beq c c')) (Nat.beq l l')) (Nat.beq e e')) (Nat.beq x x')) (Nat.beq i i')
  | .esl, .esl => true
  | .map i, .map j => Nat.beq i j
  | _, _ => false
noncomputable def eqAL : List AV → List AV → Bool :=
  listR (fun b => match b with | [] => true | _ :: _ => false) (fun x _ ih b => match b with | [] => false | y :: b' => boolC false (ih b') (eqA1 x y))
noncomputable def eqA (a b : AV) : Bool :=
  match a, b with
  | .agg x, .agg y => eqAL x y
  | .tup x, .tup y => eqAL x y
  | a, b => eqA1 a b

noncomputable def mapK {α γ β : Type} (f : α → (γ → R β) → R β) (l : List α) (k : List γ → R β) : R β :=
  listR (γ := List γ → R β) (β := R β) (fun k => k []) (fun a _ ih k => f a fun b => ih fun l' => k (b :: l')) l k
noncomputable def appK {α β : Type} (l m : List α) (k : List α → R β) : R β :=
  listR (γ := List α → R β) (β := R β) (fun k => k m) (fun a _ ih k => ih fun l' => k (a :: l')) l k
noncomputable def lenK {α β : Type} (l : List α) (k : Nat → R β) : R β :=
  listR (γ := Nat → R β) (β := R β) (fun k => k 0) (fun _ _ ih k => ih fun n => k (Nat.succ n)) l k
noncomputable def nthK {α β : Type} (l : List α) (n : Nat) (k : α → R β) (d : R β) : R β :=
  listR (γ := Nat) (β := R β) (fun _ => d) (fun a _ ih n => natC (k a) (fun m => ih m) n) l n
noncomputable def takeK {α β : Type} (n : Nat) (l : List α) (k : List α → R β) (d : R β) : R β :=
  natR (α := List α) (β := (List α → R β) → R β) (fun _ k => k []) (fun _ ih l k => match l with | [] => d | a :: l' => ih l' fun r => k (a :: r)) n l k
noncomputable def dropK {α β : Type} (n : Nat) (l : List α) (k : List α → R β) (d : R β) : R β :=
  natR (α := List α) (β := R β) k (fun _ ih l => match l with | [] => d | _ :: l' => ih l') n l

/-! ### cells -/
noncomputable def newK {β : Type} (H : AH) (o : AO) (k : Nat → AH → R β) : R β :=
  match H with
  | ⟨nx, t⟩ => setK (Nat.succ nx) t nx (some o) (fun t' => forceN (Nat.succ nx) fun nx' => k nx ⟨nx', t'⟩) (.er [1])
noncomputable def objK {β : Type} (H : AH) (id : Nat) (k : AO → R β) : R β :=
  match H with
  | ⟨_, t⟩ => getK t id k (.er [2, id])
noncomputable def updK {β : Type} (H : AH) (id : Nat) (o : Option AO) (k : AH → R β) : R β :=
  match H with
  | ⟨nx, t⟩ => setK (Nat.succ id) t id o (fun t' => k ⟨nx, t'⟩) (.er [3])
noncomputable def readK {β : Type} (t : Tr AV) (off m : Nat) (k : List AV → R β) : R β :=
  natR (α := List AV) (β := R β) k (fun i ih acc => getK t (Nat.add off i) (fun v => ih (v :: acc)) (.er [4, off, i])) m []
noncomputable def writeK {β : Type} (t : Tr AV) (off : Nat) (l : List AV) (k : Tr AV → R β) : R β :=
  listR (γ := Nat) (β := Tr AV → R β) (fun _ t => k t) (fun v _ ih i t => setK (Nat.succ i) t i (some v) (fun t' => forceN (Nat.succ i) fun i' => ih i' t') (.er [5])) l off t
noncomputable def repK {β : Type} (z : List AV) (sz n off : Nat) (t : Tr AV) (k : Tr AV → R β) : R β :=
  natR (α := Tr AV) (β := R β) k (fun i ih t => writeK t (Nat.add off (Nat.mul i sz)) z ih) n t
/-- May a cell hold it? -/
noncomputable def isCell (v : AV) : Bool :=
  match v with
  | .agg _ => false
  | .tup _ => false
  | .lit (.agg _) => false
  | .lit (.tuple _) => false
  | _ => true
noncomputable def allCell (l : List AV) : Bool := listR (γ := Unit) (β := Bool) (fun _ => true) (fun v _ ih u => boolC false (ih u) (isCell v)) l ()
noncomputable def cellsOf (v : AV) : List AV :=
  match v with
  | .agg l => l
  | v => [v]
noncomputable def ofV {β : Type} (v : Value) (k : AV → R β) : R β :=
  match v with
  | .agg cs => mapK (fun v k => k (.lit v)) cs.toList fun l => k (.agg l)
  | v => k (.lit v)

noncomputable def val (v : AV) (H : AH) : R ARes := .ok (.val v H)
noncomputable def valS (v : Value) (H : AH) : R ARes := forceV v fun v' => .ok (.val (.lit v') H)
noncomputable def undefA : AV := .lit (.tuple #[])

section
variable (E : Env)
noncomputable def tiK {β : Type} (t : TypeId) (k : TypeDesc → Nat → Nat → List AV → R β) : R β :=
  getK E.tt t (fun i => match i with | ⟨d, s, b, z⟩ => k d s b z) (.er [6, t])
noncomputable def isAggD (d : TypeDesc) : Bool :=
  match d with
  | .struct _ => true
  | .array _ _ => true
  | _ => false
noncomputable def evK {β : Type} (fr : Tr AV) (x : Operand) (k : AV → R β) : R β :=
  match x with
  | .tmp t => getK fr t k (.er [7, t])
  | .const v => ofV v k
  | .global g => getK E.gl g (fun id => k (.ptr id 0)) (.er [8, g])
  | .func f => k (.fn (.func f) [] [])

/-- Scalars: the machine's own operators. -/
noncomputable def pureV {β : Type} (s : Sem Value) (k : Value → R β) (d : R β) : R β :=
  match s with
  | .pure v => k v
  | _ => d
noncomputable def strOp {β : Type} (op : BinOp) (x y : List UInt8) (k : Value → R β) : R β :=
  match op with
  | .eql => k (.bool (eqB x y))
  | .neq => k (.bool (boolC true false (eqB x y)))
  | .lss => k (.bool (ltB x y))
  | .gtr => k (.bool (boolC true false (boolC (eqB x y) true (ltB x y))))
  | .leq => k (.bool (boolC (eqB x y) true (ltB x y)))
  | .geq => k (.bool (boolC true false (ltB x y)))
  | _ => .er [9]
noncomputable def neg1 {β : Type} (op : BinOp) (b : Bool) (k : Value → R β) : R β :=
  match op with
  | .eql => k (.bool b)
  | .neq => k (.bool (boolC true false b))
  | _ => .er [10]
noncomputable def litL {β : Type} (l : List AV) (k : List Value → R β) : R β :=
  mapK (fun v k => match v with | .lit x => k x | _ => .er [11]) l k
/-- A key as the machine's value. -/
noncomputable def isKC (c : KC) (v : Value) : Bool :=
  match c, v with
  | .i k, .int j _ => j == k
  | .s, .string _ => true
  | .b, .bool _ => true
  | _, _ => false
noncomputable def areKC : List KC → List Value → Bool :=
  listR (fun vs => match vs with | [] => true | _ :: _ => false) (fun c _ ih vs => match vs with | [] => false | v :: vs' => boolC false (ih vs') (isKC c v))
noncomputable def keyK {β : Type} (kt : TypeId) (v : AV) (k : Value → R β) : R β :=
  getK E.ky kt (fun ks => match ks, v with
    | .one c, .lit x => boolC (.er [12]) (k x) (isKC c x)
    | .agg cs, .agg l => litL l fun xs => boolC (.er [14]) (k (.agg ⟨xs⟩)) (areKC cs xs)
    | _, _ => .er [15]) (.er [16, kt])
noncomputable def eqlK {β : Type} (op : BinOp) (t : TypeId) (x y : AV) (k : Value → R β) : R β :=
  tiK E t fun d _ _ _ =>
    match d, x, y with
    | .bool, .lit (.bool a), .lit (.bool b) => neg1 op (boolC (boolC true false b) b a) k
    | .pointer _, .lit (.pointer none), .lit (.pointer none) => neg1 op true k
    | .pointer _, .lit (.pointer none), .ptr _ _ => neg1 op false k
    | .pointer _, .ptr _ _, .lit (.pointer none) => neg1 op false k
    | .slice _, .lit (.slice none _ _), .lit (.slice none _ _) => neg1 op true k
    | .slice _, .sl .., .lit (.slice none _ _) => neg1 op false k
    | .slice _, .esl, .lit (.slice none _ _) => neg1 op false k
    | .slice _, .lit (.slice none _ _), .sl .. => neg1 op false k
    | .map _ _, .lit (.map none), .lit (.map none) => neg1 op true k
    | .map _ _, .map _, .lit (.map none) => neg1 op false k
    | .func _ _ _, .lit .nilFunc, .lit .nilFunc => neg1 op true k
    | .func _ _ _, .fn _ _ _, .lit .nilFunc => neg1 op false k
    | .struct _, .agg _, .agg _ => keyK E t x fun a => keyK E t y fun b => neg1 op (eqKV a b) k
    | .array _ _, .agg _, .agg _ => keyK E t x fun a => keyK E t y fun b => neg1 op (eqKV a b) k
    | _, _, _ => .er [17, t]
noncomputable def binK (op : BinOp) (t : TypeId) (x y : AV) (H : AH) : R ARes :=
  match x, y with
  | .lit (.int j a), .lit (.int k b) => pureV (Go.binOp op 0 (.int j a) (.int k b)) (fun v => valS v H) (.er [18])
  | .lit (.string a), .lit (.string b) => strOp op a.data.toList b.data.toList fun v => valS v H
  | x, y => eqlK E op t x y fun v => valS v H

/-- 'fill' of the machine's, on lists: a part is laid at its place. -/
noncomputable def layK {β : Type} (off : Nat) (l cells : List AV) (k : List AV → R β) : R β :=
  takeK off cells (fun a => lenK l fun m => dropK (Nat.add off m) cells (fun c => appK l c fun r => appK a r k) (.er [19])) (.er [20])
noncomputable def fillK {β : Type} (fr : Tr AV) (place : Nat → (Nat → Nat → R β) → R β) (parts : List (Nat × Operand)) (cells : List AV) (k : List AV → R β) : R β :=
  listR (γ := List AV) (β := R β) k (fun p _ ih cells => match p with
    | (i, x) => evK E fr x fun v => place i fun off size => lenK (cellsOf v) fun m => boolC (.er [190]) (boolC (.er [21]) (layK off (cellsOf v) cells ih) (Nat.beq m size)) (allCell (cellsOf v))) parts cells
/-- The same into cells by numbers. -/
noncomputable def fillT {β : Type} (fr : Tr AV) (size len : Nat) (parts : List (Nat × Operand)) (t : Tr AV) (k : Tr AV → R β) : R β :=
  listR (γ := Tr AV) (β := R β) k (fun p _ ih t => match p with
    | (i, x) => evK E fr x fun v => lenK (cellsOf v) fun m => boolC (.er [191]) (boolC (.er [22]) (boolC (.er [23]) (writeK t (Nat.mul i size) (cellsOf v) ih) (Nat.blt i len)) (Nat.beq m size)) (allCell (cellsOf v))) parts t
noncomputable def fieldK {β : Type} (t : TypeId) (f : Nat) (k : Nat → Nat → Bool → R β) : R β :=
  tiK E t fun d _ _ _ => match d with
    | .struct fs => nthK fs.toList f (fun fd => tiK E fd.type fun d' s _ _ => k fd.offset s (isAggD d')) (.er [24, t, f])
    | _ => .er [25, t]
noncomputable def natK {β : Type} (v : AV) (k : Nat → R β) : R β :=
  match v with
  | .lit (.int _ (.ofNat n)) => k n
  | _ => .er [26]
noncomputable def loadK {β : Type} (t : TypeId) (a : AV) (H : AH) (k : AV → R β) : R β :=
  match a with
  | .ptr id off => objK H id fun o => match o with
    | .cells n cs _ => tiK E t fun d s _ _ =>
      boolC (boolC (.er [27]) (getK cs off k (.er [28, id, off])) (Nat.blt off n))
        (boolC (.er [29, id, off]) (readK cs off s fun l => k (.agg l)) (Nat.ble (Nat.add off s) n)) (isAggD d)
    | _ => .er [30]
  | _ => .er [31, t]
noncomputable def storeK {β : Type} (t : TypeId) (a x : AV) (H : AH) (k : AH → R β) : R β :=
  match a with
  | .ptr id off => objK H id fun o => match o with
    | .cells n cs ro => boolC (tiK E t fun _ s _ _ => lenK (cellsOf x) fun m =>
      boolC (.er [32, t]) (boolC (.er [33]) (boolC (.er [34]) (writeK cs off (cellsOf x) fun cs' => updK H id (some (.cells n cs' ro)) k) (Nat.ble (Nat.add off s) n)) (allCell (cellsOf x))) (Nat.beq m s)) (.er [35]) ro
    | _ => .er [36]
  | _ => .er [37, t]
noncomputable def lookL {β : Type} (key : Value) (l : List AE) (k : Nat → AV → R β) (d : Unit → R β) : R β :=
  listR (γ := Unit) (β := R β) d (fun p _ ih u => match p with | ⟨x, b, v⟩ => boolC (ih u) (k b v) (eqKV x key)) l ()
noncomputable def putL {β : Type} (c : Nat) (key : Value) (v : AV) (l : List AE) (k : Nat → List AE → R β) : R β :=
  listR (γ := Nat → List AE → R β) (β := R β) (fun k => forceN (Nat.succ c) fun c' => k c' [⟨key, c, v⟩]) (fun p l' ih k => match p with | ⟨x, b, u⟩ => boolC (ih fun c' r => k c' (⟨x, b, u⟩ :: r)) (k c (⟨key, b, v⟩ :: l')) (eqKV x key)) l k
noncomputable def dropL {β : Type} (key : Value) (l : List AE) (k : List AE → R β) : R β :=
  listR (γ := List AE → R β) (β := R β) (fun k => k []) (fun p l' ih k => match p with | ⟨x, b, u⟩ => boolC (ih fun r => k (⟨x, b, u⟩ :: r)) (k l') (eqKV x key)) l k
noncomputable def stampL {β : Type} (n : Nat) (v : AV) (l : List AE) (k : List AE → R β) : R β :=
  listR (γ := List AE → R β) (β := R β) (fun _ => .er [180]) (fun p l' ih k => match p with | ⟨x, b, u⟩ => boolC (ih fun r => k (⟨x, b, u⟩ :: r)) (k (⟨x, b, v⟩ :: l')) (Nat.beq b n)) l k
noncomputable def zeroA {β : Type} (d : TypeDesc) (z : List AV) (k : AV → R β) : R β :=
  boolC (match z with | [v] => k v | _ => .er [38]) (k (.agg z)) (isAggD d)
/-- A map's type, and its entries. -/
noncomputable def mapOf {β : Type} (t : TypeId) (m : AV) (H : AH) (k : TypeId → TypeId → Nat → List AE → R β) : R β :=
  tiK E t fun d _ _ _ => match d with
    | .map kt et => match m with
      | .lit (.map none) => k kt et 0 []
      | .map id => objK H id fun o => match o with | .map kt' c l => boolC (.er [38]) (k kt et c l) (Nat.beq kt' kt) | _ => .er [39]
      | _ => .er [40]
    | _ => .er [41]
noncomputable def lookupK (t : TypeId) (m x : AV) (ok : Bool) (H : AH) : R ARes :=
  mapOf E t m H fun kt et _ l => keyK E kt x fun key =>
    lookL key l (fun _ v => boolC (val v H) (val (.tup [v, .lit (.bool true)]) H) ok)
      (fun _ => tiK E et fun d _ _ z => zeroA d z fun v => boolC (val v H) (val (.tup [v, .lit (.bool false)]) H) ok)
noncomputable def updateK (t : TypeId) (m x v : AV) (H : AH) : R ARes :=
  match m with
  | .map id => mapOf E t m H fun kt _ c l => keyK E kt x fun key => putL c key v l fun c' l' => updK H id (some (.map kt c' l')) fun H' => val undefA H'
  | _ => .er [42]
noncomputable def deleteK (t : TypeId) (m x : AV) (H : AH) : R ARes :=
  match m with
  | .map id => mapOf E t m H fun kt _ c l => keyK E kt x fun key => dropL key l fun l' => updK H id (some (.map kt c l')) fun H' => val undefA H'
  | _ => .er [43]
noncomputable def entryK (t : TypeId) (m x : AV) (H : AH) : R ARes :=
  match m with
  | .map id => mapOf E t m H fun kt et c l => keyK E kt x fun key =>
    lookL key l (fun b v => val (.tup [v, .lit (.int .i64 (.ofNat b))]) H)
      (fun _ => tiK E et fun d _ _ z => zeroA d z fun v => putL c key v l fun c' l' => updK H id (some (.map kt c' l')) fun H' => val (.tup [v, .lit (.int .i64 (.ofNat c))]) H')
  | _ => .er [181]
noncomputable def stampK (m x v : AV) (H : AH) : R ARes :=
  match m with
  | .map id => natK x fun n => objK H id fun o => match o with
    | .map kt c l => stampL n v l fun l' => updK H id (some (.map kt c l')) fun H' => val undefA H'
    | _ => .er [182]
  | _ => .er [183]
noncomputable def sizeL {α : Type} (l : List α) (H : AH) : R ARes := lenK l fun n => val (.lit (.int .i64 (.ofNat n))) H
noncomputable def lenA (t : TypeId) (x : AV) (H : AH) : R ARes :=
  tiK E t fun d _ _ _ => match d, x with
    | .slice _, .sl _ _ _ n _ _ => val (.lit (.int .i64 (.ofNat n))) H
    | .slice _, .esl => val (.lit (.int .i64 (.ofNat 0))) H
    | .slice _, .lit (.slice none n _) => val (.lit (.int .i64 (.ofNat n))) H
    | .string, .lit (.string s) => sizeL s.data.toList H
    | .map _ _, .lit (.map none) => val (.lit (.int .i64 (.ofNat 0))) H
    | .map _ _, .map id => objK H id fun o => match o with | .map _ _ l => sizeL l H | _ => .er [44]
    | .array n _, _ => val (.lit (.int .i64 (.ofNat n))) H
    | _, _ => .er [45, t]
/-- The cells of a slice. -/
noncomputable def sliceCells {β : Type} (es : Nat) (x : AV) (H : AH) (k : Nat → List AV → R β) : R β :=
  match x with
  | .sl id off es' n _ _ => objK H id fun o => match o with
    | .cells m cs _ => boolC (.er [46]) (boolC (.er [47]) (readK cs off (Nat.mul n es) fun l => k n l) (Nat.ble (Nat.add off (Nat.mul n es)) m)) (Nat.beq es es')
    | _ => .er [48]
  | .lit (.slice none 0 _) => k 0 []
  | .esl => k 0 []
  | _ => .er [49]
noncomputable def elemOf' {β : Type} (t : TypeId) (k : TypeId → TypeDesc → Nat → Nat → List AV → R β) : R β :=
  tiK E t fun d _ _ _ => match d with
    | .slice e => tiK E e fun d' s b z => k e d' s b z
    | _ => .er [50]
noncomputable def appendK (t : TypeId) (s x : AV) (H : AH) : R ARes :=
  elemOf' E t fun _ _ es bs _ => sliceCells es x H fun n new =>
    match s with
    | .lit (.slice none 0 0) =>
      natC (val s H) (fun _ => boolC (.er [195]) (boolC (.er [196]) (boolC (.er [51]) (writeK .e 0 new fun t' => newK H (.cells (Nat.mul n es) t' false) fun id H' => val (.sl id 0 es n n false) H') (allCell new))
        (Nat.ble (Nat.mul n bs) 140737488355328)) (Nat.ble n 9223372036854775807)) n
    | .sl id off es' len cap ex => boolC (.er [52]) (boolC (.er [53]) (forceN (Nat.add len n) fun need => boolC (.er [195]) (boolC (.er [196])
        (objK H id fun o => match o with
        | .cells m cs ro =>
          boolC
            -- there may be no room
            (boolC
              -- nobody knows: the old number goes
              (boolC (boolC (.er [54]) (boolC (.er [199])
                (natC
                  (writeK cs (Nat.mul len es) new fun cs' => updK H id none fun H1 => newK H1 (.cells (Nat.mul need es) cs' false) fun id' H2 => val (.sl id' 0 es need need false) H2)
                  (fun _ => readK cs off (Nat.mul len es) fun old => writeK .e 0 old fun t1 => writeK t1 (Nat.mul len es) new fun cs' => updK H id none fun H1 => newK H1 (.cells (Nat.mul need es) cs' false) fun id' H2 => val (.sl id' 0 es need need false) H2) off)
                (Nat.ble 2 (Nat.mul need es))) (Nat.ble (Nat.add off (Nat.mul len es)) m)) (.er [55]) ro)
              -- no room: a new row
              (boolC (.er [56]) (readK cs off (Nat.mul len es) fun old => writeK .e 0 old fun t1 => writeK t1 (Nat.mul len es) new fun cs' => newK H (.cells (Nat.mul need es) cs' false) fun id' H2 => val (.sl id' 0 es need need false) H2)
                (Nat.ble (Nat.add off (Nat.mul len es)) m)) ex)
            -- room
            (boolC (boolC (.er [57]) (writeK cs (Nat.add off (Nat.mul len es)) new fun cs' => updK H id (some (.cells m cs' ro)) fun H' => val (.sl id off es need cap ex) H')
              (Nat.ble (Nat.add off (Nat.mul need es)) m)) (.er [58]) ro) (Nat.ble need cap)
        | _ => .er [59]) (Nat.ble (Nat.mul need bs) 140737488355328)) (Nat.ble need 9223372036854775807)) (allCell new)) (Nat.beq es es')
    | _ => .er [60]
/-- The cells of the first elements of a slice. -/
noncomputable def firstK {β : Type} (es m : Nat) (x : AV) (H : AH) (k : List AV → R β) : R β :=
  match x with
  | .sl id off es' n _ _ => objK H id fun o => match o with
    | .cells c cs _ => boolC (.er [46]) (boolC (.er [47]) (boolC (.er [61]) (readK cs off (Nat.mul m es) k) (Nat.ble m n)) (Nat.ble (Nat.add off (Nat.mul m es)) c)) (Nat.beq es es')
    | _ => .er [48]
  | _ => .er [49]
noncomputable def lenS {β : Type} (x : AV) (k : Nat → R β) : R β :=
  match x with
  | .sl _ _ _ n _ _ => k n
  | .lit (.slice none 0 _) => k 0
  | .esl => k 0
  | _ => .er [62]
noncomputable def copyK (t : TypeId) (d x : AV) (H : AH) : R ARes :=
  elemOf' E t fun _ _ es _ _ => lenS x fun n => lenS d fun n' => forceN (boolC n' n (Nat.ble n n')) fun m =>
    natC (val (.lit (.int .i64 (.ofNat 0))) H) (fun _ => firstK es m x H fun new =>
    match d with
    | .sl id off es' len _ _ => boolC (.er [61]) (boolC (.er [63]) (boolC (.er [67]) (objK H id fun o => match o with
        | .cells c cs ro => boolC (boolC (.er [64]) (writeK cs off new fun cs' => updK H id (some (.cells c cs' ro)) fun H' => val (.lit (.int .i64 (.ofNat m))) H') (Nat.ble (Nat.add off (Nat.mul len es)) c)) (.er [65]) ro
        | _ => .er [66]) (Nat.ble m len)) (allCell new)) (Nat.beq es es')
    | _ => .er [67]) m
noncomputable def clearK (t : TypeId) (x : AV) (H : AH) : R ARes :=
  elemOf' E t fun _ _ es _ z => match x with
    | .sl id off es' len _ _ => natC (val undefA H) (fun _ => boolC (.er [68]) (objK H id fun o => match o with
        | .cells m cs ro => boolC (boolC (.er [69]) (repK z es len off cs fun cs' => updK H id (some (.cells m cs' ro)) fun H' => val undefA H') (Nat.ble (Nat.add off (Nat.mul len es)) m)) (.er [70]) ro
        | _ => .er [71]) (Nat.beq es es')) len
    | .lit (.slice none _ _) => val undefA H
    | .esl => val undefA H
    | _ => .er [72]
noncomputable def minK (big : Bool) (x y : AV) (H : AH) : R ARes :=
  match x, y with
  | .lit (.int j a), .lit (.int k b) => boolC (pureV (Builtin.min2 (.int j a) (.int k b)) (fun v => valS v H) (.er [73])) (pureV (Builtin.max2 (.int j a) (.int k b)) (fun v => valS v H) (.er [74])) big
  | _, _ => .er [75]
noncomputable def builtinK (b : Builtin) (ts : List TypeId) (args : List AV) (H : AH) : R ARes :=
  match b, ts, args with
  | .append, [t, t'], [s, x] => boolC (.er [76]) (appendK E t s x H) (Nat.beq t t')
  | .len, [t], [x] => lenA E t x H
  | .delete, t :: _, [m, x] => deleteK E t m x H
  | .copy, t :: _, [d, x] => copyK E t d x H
  | .clear, [t], [x] => clearK E t x H
  | .min, _, [x, y] => minK false x y H
  | .max, _, [x, y] => minK true x y H
  | _, _, _ => .er [77]
noncomputable def callK (f : AV) (args : List AV) (H : AH) : R ARes :=
  match f with
  | .fn g first captured => match g with
    | .func n => appK args captured fun a1 => appK first a1 fun a2 => .ok (.call n a2 H)
    | .yield l => appK first args fun a => .ok (.round l a H)
    | _ => .er [78]
  | _ => .er [79]
noncomputable def optK {β : Type} (fr : Tr AV) (x : Option Operand) (d : Nat) (k : Nat → R β) : R β :=
  match x with
  | none => k d
  | some x => evK E fr x fun v => natK v k
noncomputable def sliceK (t : TypeId) (x : AV) (lo hi mx : Option Operand) (fr : Tr AV) (H : AH) : R ARes :=
  elemOf' E t fun _ _ es _ _ => match x with
    | .sl id off es' len cap ex =>
      boolC (.er [80]) (optK E fr hi len fun h => optK E fr lo 0 fun l => match mx with
        | none => boolC (.er [81]) (boolC (.er [82])
            (forceN (Nat.sub h l) fun n => forceN (Nat.sub cap l) fun c =>
              natC (natC (val (.sl id off es n c ex) H) (fun _ => boolC (val .esl H) (val (.sl id off es n c ex) H) ex) l)
                (fun _ => forceN (Nat.add off (Nat.mul l es)) fun off' => val (.sl id off' es n c ex) H) c)
            (Nat.ble l h)) (Nat.ble h cap)
        | some m => evK E fr m fun v => natK v fun m => boolC (.er [192]) (boolC (.er [83]) (boolC (.er [84]) (boolC (.er [85])
            (forceN (Nat.sub h l) fun n => forceN (Nat.sub m l) fun c =>
              natC (val (.sl id off es n c true) H) (fun _ => forceN (Nat.add off (Nat.mul l es)) fun off' => val (.sl id off' es n c true) H) c)
            (Nat.ble l h)) (Nat.ble h m)) (Nat.ble m cap)) hi.isSome) (Nat.beq es es')
    | .lit (.slice none 0 0) => boolC (.er [192]) (optK E fr hi 0 fun h => optK E fr lo 0 fun l => optK E fr mx 0 fun m => natC (natC (natC (val (.lit (.slice none 0 0)) H) (fun _ => .er [86]) m) (fun _ => .er [86]) l) (fun _ => .er [86]) h) (boolC true hi.isSome mx.isSome)
    | .esl => optK E fr hi 0 fun h => optK E fr lo 0 fun l => match mx with | none => natC (natC (val .esl H) (fun _ => .er [87]) l) (fun _ => .er [87]) h | _ => .er [87]
    | _ => .er [88]
noncomputable def indexAddrK (t : TypeId) (x : AV) (i : Nat) (H : AH) : R ARes :=
  tiK E t fun d _ _ _ => match d, x with
    | .slice e, .sl id off es n _ _ => tiK E e fun _ s _ _ => boolC (.er [89]) (boolC (.er [90, i, n]) (forceN (Nat.add off (Nat.mul i es)) fun o => val (.ptr id o) H) (Nat.blt i n)) (Nat.beq es s)
    | .array n e, .ptr id off => tiK E e fun _ s _ _ => boolC (.er [91, i, n]) (forceN (Nat.add off (Nat.mul i s)) fun o => val (.ptr id o) H) (Nat.blt i n)
    | _, _ => .er [92, t]
noncomputable def partK {β : Type} (off s : Nat) (ag : Bool) (l : List AV) (k : AV → R β) : R β :=
  boolC (nthK l off k (.er [93])) (dropK off l (fun l' => takeK s l' (fun p => k (.agg p)) (.er [94])) (.er [95])) ag
noncomputable def indexK (t : TypeId) (x : AV) (i : Nat) (H : AH) : R ARes :=
  tiK E t fun d _ _ _ => match d, x with
    | .string, .lit (.string s) => nthK s.data.toList i (fun b => valS (.int .u8 (.ofNat b.toNat)) H) (.er [96])
    | .array n e, .agg l => tiK E e fun d' s _ _ => boolC (.er [97]) (partK (Nat.mul i s) s (isAggD d') l fun v => val v H) (Nat.blt i n)
    | _, _ => .er [98, t]
noncomputable def makeSliceK (t : TypeId) (n c : Nat) (H : AH) : R ARes :=
  elemOf' E t fun _ _ es b z => boolC (.er [99]) (boolC (.er [100]) (boolC (.er [101]) (repK z es c 0 .e fun t' => newK H (.cells (Nat.mul c es) t' false) fun id H' => val (.sl id 0 es n c true) H')
    (Nat.ble n c)) (Nat.ble (Nat.mul b c) 140737488355328)) (Nat.ble c 9223372036854775807)

noncomputable def opK (fr : Tr AV) (o : Op) (H : AH) : R ARes :=
  match o with
  | .move x => evK E fr x fun v => val v H
  | .assign x => evK E fr x fun v => val v H
  | .pick c a b => evK E fr c fun v => match v with
    | .lit (.bool b') => boolC (evK E fr b fun v => val v H) (evK E fr a fun v => val v H) b'
    | _ => .er [102]
  | .alloc t => tiK E t fun _ s _ z => writeK .e 0 z fun t' => newK H (.cells s t' false) fun id H' => val (.ptr id 0) H'
  | .box _ x => evK E fr x fun v => lenK (cellsOf v) fun n => boolC (.er [103]) (writeK .e 0 (cellsOf v) fun t' => newK H (.cells n t' false) fun id H' => val (.ptr id 0) H') (allCell (cellsOf v))
  | .build t parts => tiK E t fun d _ _ z => match d with
    | .struct _ => fillK E fr (fun i k => fieldK E t i fun off s _ => k off s) parts.toList z fun l => val (.agg l) H
    | .array n e => tiK E e fun _ s _ _ => fillK E fr (fun i k => boolC (.er [104]) (k (Nat.mul i s) s) (Nat.blt i n)) parts.toList z fun l => val (.agg l) H
    | _ => .er [105]
  | .buildSlice t n parts => elemOf' E t fun _ _ es _ z => boolC (.er [194]) (boolC (.er [106]) (repK z es n 0 .e fun t0 => fillT E fr es n parts.toList t0 fun t' => newK H (.cells (Nat.mul n es) t' false) fun id H' => val (.sl id 0 es n n true) H') (Nat.ble (Nat.mul n es) 16777216)) (Nat.ble n 9223372036854775807)
  | .load t a => evK E fr a fun a => loadK E t a H fun v => val v H
  | .store t a x => evK E fr a fun a => evK E fr x fun x => storeK E t a x H fun H' => val undefA H'
  | .nilCheck x => evK E fr x fun v => match v with
    | .ptr _ _ => val v H
    | .fn (.func _) _ _ => val v H
    | _ => .er [107]
  | .binOp op t x y _ => evK E fr x fun x => evK E fr y fun y => binK E op t x y H
  | .unOp op _ x => evK E fr x fun v => match v with
    | .lit x => pureV (Op.unary op x) (fun v => valS v H) (.er [108])
    | _ => .er [109]
  | .convert src dst x => evK E fr x fun v => tiK E src fun _ _ _ _ => tiK E dst fun d _ _ _ => match d, v with
    | .int k, .lit (.int _ n) => pureV (Conv.intToInt k n) (fun v => valS v H) (.er [110])
    | _, _ => .er [111]
  | .makeFunc f first captured => match f with
    | .func _ => mapK (evK E fr) first.toList fun a => mapK (evK E fr) captured.toList fun b => val (.fn f a b) H
    | _ => .er [184]
  | .makeMap t r => tiK E t fun d _ _ _ => match d with
    | .map kt _ => optK E fr r 0 fun _ => getK E.ky kt (fun _ => newK H (.map kt 0 []) fun id H' => val (.map id) H') (.er [193, kt])
    | _ => .er [112]
  | .makeSlice t l c => evK E fr l fun l => natK l fun l => evK E fr c fun c => natK c fun c => makeSliceK E t l c H
  | .slice t x lo hi mx => evK E fr x fun x => sliceK E t x lo hi mx fr H
  | .fieldAddr t x f => evK E fr x fun v => match v with
    | .ptr id off => fieldK E t f fun o s _ => natC (.er [113]) (fun _ => forceN (Nat.add off o) fun o' => val (.ptr id o') H) s
    | _ => .er [114, t, f]
  | .field t x f => evK E fr x fun v => match v with
    | .agg l => fieldK E t f fun o s ag => partK o s ag l fun v => val v H
    | _ => .er [115]
  | .indexAddr t x i => evK E fr x fun x => evK E fr i fun i => natK i fun i => indexAddrK E t x i H
  | .index t x i => evK E fr x fun x => evK E fr i fun i => natK i fun i => indexK E t x i H
  | .lookup t m x ok => evK E fr m fun m => evK E fr x fun x => lookupK E t m x ok H
  | .mapUpdate t m x v => evK E fr m fun m => evK E fr x fun x => evK E fr v fun v => updateK E t m x v H
  | .insert t m x v => evK E fr m fun m => evK E fr x fun x => evK E fr v fun v => updateK E t m x v H
  | .mapEntry t m x => evK E fr m fun m => evK E fr x fun x => entryK E t m x H
  | .entryStore _ m x v => evK E fr m fun m => evK E fr x fun x => evK E fr v fun v => stampK m x v H
  | .extract x i => evK E fr x fun v => match v with
    | .tup l => nthK l i (fun v => val v H) (.er [116])
    | _ => .er [117]
  | .call c => match c.callee with
    | .builtin b => mapK (evK E fr) c.args.toList fun args => builtinK E b c.argTypes.toList args H
    | .value f => evK E fr f fun f => mapK (evK E fr) c.args.toList fun args => callK f args H
    | _ => .er [118]
  | _ => .er [119]
end

/-! ### statements -/
inductive Task where
  | call (f : FuncId) (args : List AV)
  | round (l : Nat) (args : List AV)

/-- What the parts of the program are handed: calls and rounds. -/
abbrev Go' := Task → AH → R (AV × AH)

section
variable (E : Env) (rc : Go')
noncomputable def dstK {β : Type} (fr : AFr) (d : Option Tmp) (v : AV) (k : AFr → R β) : R β :=
  match d with
  | none => k fr
  | some t => match fr with
    | ⟨s, n, m, r, f⟩ => boolC (.er [120]) (setK 64 s t (some v) (fun s' => k ⟨s', n, m, r, f⟩) (.er [121])) (Nat.blt t n)
/-- Is it to be done? -/
noncomputable def wantedK {β : Type} (fr : AFr) (ops : List Oper) (g : Option (Nat × Bool)) (yes no : Unit → R β) : R β :=
  match g with
  | none => yes ()
  | some (j, b) => nthK ops j (fun o => match o.dst with
      | some t => getK fr.slots t (fun v => match v with
        | .lit (.bool c) => boolC (boolC (yes ()) (no ()) c) (boolC (no ()) (yes ()) c) b
        | _ => no ()) (.er [122])
      | none => .er [122]) (.er [122])
noncomputable def operK {β : Type} (fr : AFr) (ops : List Oper) (o : Oper) (H : AH) (k : AFr → AH → R β) : R β :=
  wantedK fr ops o.guard
    (fun _ => match opK E fr.slots o.op H with
     | .er l => .er (fr.fn :: l)
     | .ok r => match r with
       | .val v H' => dstK fr o.dst v fun fr' => k fr' H'
       | .call f args H' => (match rc (.call f args) H' with
         | .ok p => match p with | (v, H'') => dstK fr o.dst v fun fr' => k fr' H''
         | .er l => .er (fr.fn :: l))
       | .round l args H' => (match rc (.round l args) H' with
         | .ok p => match p with | (v, H'') => dstK fr o.dst v fun fr' => k fr' H''
         | .er l => .er (fr.fn :: l)))
    (fun _ => dstK fr o.dst undefA fun fr' => k fr' H)
noncomputable def opsK {β : Type} (ops : List Oper) (l : List Oper) (k : AFr → AH → R β) : AFr → AH → R β :=
  listR (γ := AFr) (β := AH → R β) k (fun o _ ih fr H => operK E rc fr ops o H ih) l
/-- Asked again, it yields the same. -/
noncomputable def againK {β : Type} (fr : AFr) (ops : List Oper) (i : Nat) (H : AH) (k : Unit → R β) : R β :=
  nthK ops i (fun o => wantedK fr ops o.guard
    (fun _ => match opK E fr.slots o.op H with
     | .ok (.val v _) => (match o.dst with
        | none => k ()
        | some t => getK fr.slots t (fun u => boolC (.er [123, fr.fn, i]) (k ()) (eqA u v)) (.er [124]))
     | _ => .er [125, fr.fn, i]) k) (.er [126])
noncomputable def againL {β : Type} (fr : AFr) (ops : List Oper) (l : List Nat) (H : AH) (k : Unit → R β) : R β :=
  listR (γ := Unit) (β := R β) k (fun i _ ih _ => againK E fr ops i H ih) l ()
noncomputable def planK {β : Type} (ops : List Oper) (l : List PStep) (k : AFr → AH → R β) : AFr → AH → R β :=
  listR (γ := AFr) (β := AH → R β) k (fun p _ ih fr H => match p with
    | .op i => nthK ops i (fun o => operK E rc fr ops o H ih) (.er [127])
    | .wr i re => nthK ops i (fun o => operK E rc fr ops o H fun fr' H' => againL E fr' ops re H' fun _ => ih fr' H') (.er [128])) l

abbrev St := R (AEx × AFr × AH)
noncomputable def codeR (m : Code → AFr → AH → St)
    (hseq : (AFr → AH → St) → (AFr → AH → St) → AFr → AH → St) (hcond : Operand → (AFr → AH → St) → (AFr → AH → St) → AFr → AH → St)
    (hblock : Nat → (AFr → AH → St) → AFr → AH → St) (hloop : (AFr → AH → St) → AFr → AH → St) (c : Code) : AFr → AH → St :=
--KERNEL
  Code.rec (motive := fun _ => AFr → AH → St) (m .skip) (fun id ops d => m (.region id ops d)) (fun _ _ a b => hseq a b) (fun x _ _ a b => hcond x a b) (fun id _ a => hblock id a) (fun _ a => hloop a)
    (fun f ps as bd _ _ => m (.rangeFunc f ps as bd)) (fun id => m (.exit id)) (fun c _ => m (.scope c)) (fun l => m (.label l)) (fun l => m (.goto l)) (m .ret) (fun w => m (.refuse w)) c
--END
--DEBUG   match c with | .seq a b => hseq (codeR m hseq hcond hblock hloop a) (codeR m hseq hcond hblock hloop b) | .cond x a b => hcond x (codeR m hseq hcond hblock hloop a) (codeR m hseq hcond hblock hloop b) | .block i a => hblock i (codeR m hseq hcond hblock hloop a) | .loop a => hloop (codeR m hseq hcond hblock hloop a) | c => m c

noncomputable def seqS (a b : AFr → AH → St) (fr : AFr) (H : AH) : St :=
  match a fr H with
  | .er l => .er l
  | .ok r => match r with
    | (.normal, fr', H') => b fr' H'
    | r => .ok r
noncomputable def condS (x : Operand) (a b : AFr → AH → St) (fr : AFr) (H : AH) : St :=
  evK E fr.slots x fun v => match v with
    | .lit (.bool c) => boolC (b fr H) (a fr H) c
    | _ => .er [129]
noncomputable def blockS (id : Nat) (a : AFr → AH → St) (fr : AFr) (H : AH) : St :=
  match a fr H with
  | .er l => .er l
  | .ok r => match r with
    | (.exit j, fr', H') => boolC (.ok (.exit j, fr', H')) (.ok (.normal, fr', H')) (Nat.beq j id)
    | r => .ok r
noncomputable def loopS (a : AFr → AH → St) (fr : AFr) (H : AH) : St :=
  natR (α := AFr) (β := AH → St) (fun fr _ => .er [fr.fn, 130]) (fun _ ih fr H => match a fr H with
    | .er l => .er l
    | .ok r => match r with
      | (.normal, fr', H') => ih fr' H'
      | r => .ok r) E.lim fr H
/-- The loop record at entry: and at an outermost loop the block of deferred calls. -/
noncomputable def enterS {β : Type} (fr : AFr) (ps : List Tmp) (as bd : Code) (H : AH) (k : Nat → AFr → AH → R β) : R β :=
  match fr with
  | ⟨s, n, m, r, f⟩ => match r with
    | none => newK H .deferred fun d H1 => newK H1 (.loop .ready none f n s ps as bd d) fun l H2 => k l ⟨s, n, d :: m, none, f⟩ H2
    | some l0 => objK H l0 fun o => match o with
      | .loop _ _ _ _ _ _ _ _ d => newK H (.loop .ready none f n s ps as bd d) fun l H2 => k l ⟨s, n, m, some l0, f⟩ H2
      | _ => .er [131]
noncomputable def jumpS (pend : Option Code) (fr : AFr) (H : AH) : St :=
  match pend with
  | none => .ok (.normal, fr, H)
  | some c => match c with
    | .ret => .ok (.ret, fr, H)
    | .exit id => .ok (.exit id, fr, H)
    | _ => .er [132]
noncomputable def rangeS (g : Operand) (ps : List Tmp) (as bd : Code) (fr : AFr) (H : AH) : St :=
  evK E fr.slots g fun gv => enterS fr ps as bd H fun l fr' H1 =>
    match callK gv [.fn (.yield l) [] []] H1 with
    | .ok (.call f args H2) => (match rc (.call f args) H2 with
      | .er l => .er (fr.fn :: l)
      | .ok p => match p with
        | (_, H3) => objK H3 l fun o => match o with
          | .loop st pend f n s ps as bd d => (match st with
            | .busy => .er [133]
            | _ => updK H3 l (some (.loop .exhausted pend f n s ps as bd d)) fun H4 => jumpS pend fr' H4)
          | _ => .er [134])
    | _ => .er [135]
noncomputable def leafS (c : Code) (fr : AFr) (H : AH) : St :=
  match c with
  | .skip => .ok (.normal, fr, H)
  | .ret => .ok (.ret, fr, H)
  | .exit id => .ok (.exit id, fr, H)
  | .region id ops d => boolC (opsK E rc ops.toList ops.toList (fun fr' H' => .ok (.normal, fr', H')) fr H)
      (getK E.pl fr.fn (fun tb => getK tb id (fun pl => planK E rc ops.toList pl (fun fr' H' => .ok (.normal, fr', H')) fr H) (.er [136, fr.fn, id])) (.er [137, fr.fn])) d
  | .rangeFunc g ps as bd => rangeS E rc g ps.toList as bd fr H
  | _ => .er [138]
noncomputable def codeS (c : Code) : AFr → AH → St := codeR (leafS E rc) seqS (condS E) blockS (loopS E) c
noncomputable def eraseL {β : Type} (l : List Nat) (H : AH) (k : AH → R β) : R β :=
  listR (γ := AH) (β := R β) k (fun id _ ih H => objK H id fun o => match o with | .deferred => updK H id none ih | _ => .er [185]) l H
noncomputable def resK {β : Type} (s : Tr AV) (H : AH) (rs : List ResultVar) (k : AV → R β) : R β :=
  mapK (fun r k => match r with
    | .tmp t => getK s t k (.er [139])
    | .cell a t => getK s a (fun p => loadK E t p H k) (.er [140])) rs fun l => match l with | [v] => k v | l => k (.tup l)
noncomputable def slotsK {β : Type} (args : List AV) (k : Nat → Tr AV → R β) : R β := writeK .e 0 args fun t => lenK args fun n => k n t
/-- A key is an int, and it is told apart from the entries behind it. -/
noncomputable def isI64 (v : Value) : Bool :=
  match v with
  | .int .i64 n => (match n with | .ofNat a => Nat.ble a 9223372036854775807 | .negSucc a => Nat.ble a 9223372036854775807)
  | _ => false
noncomputable def apartB (b : Nat) (v : Value) (l : List AE) : Bool :=
  listR (γ := Unit) (β := Bool) (fun _ => true) (fun p _ ih u => match p with | ⟨x, b', _⟩ => boolC (boolC (ih u) false (eqKV x v)) false (Nat.beq b' b)) l ()
noncomputable def mapFine (c : Nat) (l : List AE) : Bool :=
  listR (γ := Unit) (β := Bool) (fun _ => true) (fun p l' ih u => match p with | ⟨x, b, _⟩ => boolC false (boolC false (boolC false (ih u) (apartB b x l')) (isI64 x)) (Nat.blt b c)) l ()
/-- The numbers of a map's keys. -/
noncomputable def keysK {β : Type} (f : AV) (H : AH) (k : List Value → R β) : R β :=
  match f with
  | .fn (.func g) [] [.ptr id 0] => getK E.hk g (fun h => natC (.er [141]) (fun h => natC (objK H id fun o => match o with
      | .cells 1 cs _ => getK cs 0 (fun m => match m with
        | .map id' => objK H id' fun o => match o with
          | .map _ c l => lenK l fun n => boolC (.er [197]) (boolC (.er [198]) (mapK (fun (p : AE) k => match p with | ⟨x, _, _⟩ => k x) l k) (mapFine c l)) (Nat.ble n 1000000)
          | _ => .er [142]
        | .lit (.map none) => k []
        | _ => .er [143]) (.er [144])
      | _ => .er [145]) (fun _ => .er [146]) h) h) (.er [147])
  | _ => .er [148]
noncomputable def insI {β : Type} (n : Int) (l : List Int) (k : List Int → R β) : R β :=
  listR (γ := List Int → R β) (β := R β) (fun k => k [n]) (fun m l' ih k => boolC (ih fun r => k (m :: r)) (k (n :: m :: l')) (match n, m with | .ofNat a, .ofNat b => Nat.ble a b | .negSucc a, .negSucc b => Nat.ble b a | .negSucc _, .ofNat _ => true | .ofNat _, .negSucc _ => false)) l k
noncomputable def sortI {β : Type} (l : List Value) (k : List Int → R β) : R β :=
  listR (γ := List Int → R β) (β := R β) (fun k => k []) (fun v _ ih k => match v with | .int .i64 n => ih fun r => insI n r k | _ => .er [149]) l k
noncomputable def litsK {β : Type} (l : List Int) (k : List AV → R β) : R β := mapK (fun n k => k (.lit (.int .i64 n))) l k
/-- Calls that are not looked into: 2 Sorted of a map's keys, 3 Collect of them, 4 Min of such. -/
noncomputable def hookK (h : Nat) (args : List AV) (H : AH) : R (AV × AH) :=
  natC (.er [150]) (fun h => natC (.er [151]) (fun h => natC
    (match args with
     | [f] => keysK E f H fun ks => sortI ks fun l => litsK l fun vs => lenK vs fun n =>
        natC (.ok (.lit (.slice none 0 0), H)) (fun _ => writeK .e 0 vs fun t => newK H (.cells n t false) fun id H' => .ok (.sl id 0 1 n n false, H')) n
     | _ => .er [152])
    (fun h => natC
      (match args with
       | [f] => keysK E f H fun ks => sortI ks fun l => litsK l fun vs => lenK vs fun n =>
          natC (.ok (.lit (.slice none 0 0), H)) (fun _ => mapK (fun n k => k (Value.int .i64 n)) l fun vs => newK H (.bag vs) fun id H' => .ok (.sl id 0 1 n n false, H')) n
       | _ => .er [153])
      (fun h => natC (match args with
       | [.sl id 0 1 n _ _] => objK H id fun o => match o with
         | .bag l => lenK l fun m => boolC (.er [154]) (sortI l fun ns => match ns with | x :: _ => .ok (.lit (.int .i64 x), H) | [] => .er [155]) (Nat.beq m n)
         | _ => .er [156]
       | _ => .er [157])
       (fun _ => match args with
        | [] => .ok (.lit (.bool true), H)
        | _ => .er [202]) h) h) h) h) h
noncomputable def bodyS (f : FuncId) (args : List AV) (H : AH) : R (AV × AH) :=
  getK E.ft f (fun fn => match fn.body with
    | none => .er [158, f]
    | some c => slotsK args fun n s => forceN (Nat.add n (Nat.sub fn.ntmps n)) fun n' =>
      match codeS E rc c ⟨s, n', [], none, f⟩ H with
      | .er l => .er l
      | .ok r => match r with
        | (ex, fr, H1) => (match ex with
          | .exit _ => .er [159]
          | _ => match fr with
            | ⟨s', _, m, _, _⟩ => eraseL m H1 fun H2 => resK E s' H2 fn.results.toList fun v => .ok (v, H2))) (.er [160, f])
noncomputable def setPs {β : Type} (n : Nat) (ps : List Tmp) (args : List AV) (s : Tr AV) (k : Tr AV → R β) : R β :=
  listR (γ := List AV) (β := Tr AV → R β) (fun args s => match args with | [] => k s | _ => .er [161]) (fun p _ ih args s => match args with
    | [] => .er [162]
    | a :: args' => boolC (.er [163]) (setK 64 s p (some a) (fun s' => ih args' s') (.er [164])) (Nat.blt p n)) ps args s
noncomputable def roundS (l : Nat) (args : List AV) (H : AH) : R (AV × AH) :=
  objK H l fun o => match o with
    | .loop st _pend f n s ps as bd0 _d => (match st with
      | .ready => setPs n ps args s fun s1 => (match codeS E rc as ⟨s1, n, [], some l, f⟩ H with
        | .er l => .er l
        | .ok r => match r with
          | (.normal, fr, H1) => objK H1 l fun o => (match o with
            | .loop st pend f n s ps as bd d => (match st with
              | .ready => updK H1 l (some (.loop .busy pend f n s ps as bd d)) fun H2 => (match codeS E rc bd0 fr H2 with
                | .er l => .er l
                | .ok r => match r with
                  | (ex, _, H3) => objK H3 l fun o => (match o with
                    | .loop _ _pend f n s ps as bd d => (match ex with
                      | .normal => updK H3 l (some (.loop .ready none f n s ps as bd d)) fun H4 => .ok (.lit (.bool true), H4)
                      | .ret => updK H3 l (some (.loop .done (some .ret) f n s ps as bd d)) fun H4 => .ok (.lit (.bool false), H4)
                      | .exit id => updK H3 l (some (.loop .done (some (.exit id)) f n s ps as bd d)) fun H4 => .ok (.lit (.bool false), H4))
                    | _ => .er [165]))
              | _ => .er [166])
            | _ => .er [167])
          | _ => .er [168])
      | _ => .er [169])
    | _ => .er [170]
end

/-- Calls and rounds, so deep at most. -/
noncomputable def goK (E : Env) (n : Nat) : Go' :=
  natR (α := Task) (β := AH → R (AV × AH)) (fun _ _ => .er [171]) (fun _ rc t H => match t with
    | .call f args => getK E.hk f (fun h => natC (bodyS E rc f args H) (fun h' => natC (bodyS E rc f args H) (fun _ => hookK E h args H) h') h) (bodyS E rc f args H)
    | .round l args => roundS E rc l args H) n
end Go.Proofs.YtclljjfkaljdnaaGreatDoor
