/- The evaluator in continuation style, printed by wip/gencps.py out of E2: what is reckoned stays at the head, so that the kernel keeps nothing. No program in sight. -/
import Derived.Test.YtclljjfkaljdnaaGreatDoorE3
namespace Go.Proofs.YtclljjfkaljdnaaGreatDoor
open Go.RowKit

noncomputable def valc {β : Type} (kk : ARes → R β) (v : AV) (H : AH) : R β := kk (.val v H)
noncomputable def valSc {β : Type} (kk : ARes → R β) (v : Value) (H : AH) : R β := forceV v fun v' => kk (.val (.lit v') H)
noncomputable def binKc (E : Env) {β : Type} (kk : ARes → R β) (op : BinOp) (t : TypeId) (x y : AV) (H : AH) : R β :=
  match x, y with
  | .lit (.int j a), .lit (.int k b) => pureV (Go.binOp op 0 (.int j a) (.int k b)) (fun v => valSc kk v H) (.er [18])
  | .lit (.string a), .lit (.string b) => strOp op a.data.toList b.data.toList fun v => valSc kk v H
  | x, y => eqlK E op t x y fun v => valSc kk v H

noncomputable def lookupKc (E : Env) {β : Type} (kk : ARes → R β) (t : TypeId) (m x : AV) (ok : Bool) (H : AH) : R β :=
  mapOf E t m H fun kt et _ l => keyK E kt x fun key =>
    lookL key l (fun _ v => boolC (valc kk v H) (valc kk (.tup [v, .lit (.bool true)]) H) ok)
      (fun _ => tiK E et fun d _ _ z => zeroA d z fun v => boolC (valc kk v H) (valc kk (.tup [v, .lit (.bool false)]) H) ok)
noncomputable def updateKc (E : Env) {β : Type} (kk : ARes → R β) (t : TypeId) (m x v : AV) (H : AH) : R β :=
  match m with
  | .map id => mapOf E t m H fun kt _ c l => keyK E kt x fun key => putL c key v l fun c' l' => updK H id (some (.map kt c' l')) fun H' => valc kk undefA H'
  | _ => .er [42]
noncomputable def deleteKc (E : Env) {β : Type} (kk : ARes → R β) (t : TypeId) (m x : AV) (H : AH) : R β :=
  match m with
  | .map id => mapOf E t m H fun kt _ c l => keyK E kt x fun key => dropL key l fun l' => updK H id (some (.map kt c l')) fun H' => valc kk undefA H'
  | _ => .er [43]
noncomputable def entryKc (E : Env) {β : Type} (kk : ARes → R β) (t : TypeId) (m x : AV) (H : AH) : R β :=
  match m with
  | .map id => mapOf E t m H fun kt et c l => keyK E kt x fun key =>
    lookL key l (fun b v => valc kk (.tup [v, .lit (.int .i64 (.ofNat b))]) H)
      (fun _ => tiK E et fun d _ _ z => zeroA d z fun v => putL c key v l fun c' l' => updK H id (some (.map kt c' l')) fun H' => valc kk (.tup [v, .lit (.int .i64 (.ofNat c))]) H')
  | _ => .er [181]
noncomputable def stampKc {β : Type} (kk : ARes → R β) (m x v : AV) (H : AH) : R β :=
  match m with
  | .map id => natK x fun n => objK H id fun o => match o with
    | .map kt c l => stampL n v l fun l' => updK H id (some (.map kt c l')) fun H' => valc kk undefA H'
    | _ => .er [182]
  | _ => .er [183]
noncomputable def sizeLc {α : Type} {β : Type} (kk : ARes → R β) (l : List α) (H : AH) : R β := lenK l fun n => valc kk (.lit (.int .i64 (.ofNat n))) H
noncomputable def lenAc (E : Env) {β : Type} (kk : ARes → R β) (t : TypeId) (x : AV) (H : AH) : R β :=
  tiK E t fun d _ _ _ => match d, x with
    | .slice _, .sl _ _ _ n _ _ => valc kk (.lit (.int .i64 (.ofNat n))) H
    | .slice _, .esl => valc kk (.lit (.int .i64 (.ofNat 0))) H
    | .slice _, .lit (.slice none n _) => valc kk (.lit (.int .i64 (.ofNat n))) H
    | .string, .lit (.string s) => sizeLc kk s.data.toList H
    | .map _ _, .lit (.map none) => valc kk (.lit (.int .i64 (.ofNat 0))) H
    | .map _ _, .map id => objK H id fun o => match o with | .map _ _ l => sizeLc kk l H | _ => .er [44]
    | .array n _, _ => valc kk (.lit (.int .i64 (.ofNat n))) H
    | _, _ => .er [45, t]
noncomputable def appendKc (E : Env) {β : Type} (kk : ARes → R β) (t : TypeId) (s x : AV) (H : AH) : R β :=
  elemOf' E t fun _ _ es bs _ => sliceCells es x H fun n new =>
    match s with
    | .lit (.slice none 0 0) =>
      natC (valc kk s H) (fun _ => boolC (.er [195]) (boolC (.er [196]) (boolC (.er [51]) (writeK .e 0 new fun t' => newK H (.cells (Nat.mul n es) t' false) fun id H' => valc kk (.sl id 0 es n n false) H') (allCell new))
        (Nat.ble (Nat.mul n bs) 140737488355328)) (Nat.ble n 9223372036854775807)) n
    | .sl id off es' len cap ex => boolC (.er [52]) (boolC (.er [53]) (forceN (Nat.add len n) fun need => boolC (.er [195]) (boolC (.er [196])
        (objK H id fun o => match o with
        | .cells m cs ro =>
          boolC
            -- there may be no room
            (boolC
              -- nobody knows: the old number goes
              (boolC (boolC (.er [54]) (boolC (.er [199])
                (natC
                  (writeK cs (Nat.mul len es) new fun cs' => updK H id none fun H1 => newK H1 (.cells (Nat.mul need es) cs' false) fun id' H2 => valc kk (.sl id' 0 es need need false) H2)
                  (fun _ => readK cs off (Nat.mul len es) fun old => writeK .e 0 old fun t1 => writeK t1 (Nat.mul len es) new fun cs' => updK H id none fun H1 => newK H1 (.cells (Nat.mul need es) cs' false) fun id' H2 => valc kk (.sl id' 0 es need need false) H2) off)
                (Nat.ble 2 (Nat.mul need es))) (Nat.ble (Nat.add off (Nat.mul len es)) m)) (.er [55]) ro)
              -- no room: a new row
              (boolC (.er [56]) (readK cs off (Nat.mul len es) fun old => writeK .e 0 old fun t1 => writeK t1 (Nat.mul len es) new fun cs' => newK H (.cells (Nat.mul need es) cs' false) fun id' H2 => valc kk (.sl id' 0 es need need false) H2)
                (Nat.ble (Nat.add off (Nat.mul len es)) m)) ex)
            -- room
            (boolC (boolC (.er [57]) (writeK cs (Nat.add off (Nat.mul len es)) new fun cs' => updK H id (some (.cells m cs' ro)) fun H' => valc kk (.sl id off es need cap ex) H')
              (Nat.ble (Nat.add off (Nat.mul need es)) m)) (.er [58]) ro) (Nat.ble need cap)
        | _ => .er [59]) (Nat.ble (Nat.mul need bs) 140737488355328)) (Nat.ble need 9223372036854775807)) (allCell new)) (Nat.beq es es')
    | _ => .er [60]
noncomputable def copyKc (E : Env) {β : Type} (kk : ARes → R β) (t : TypeId) (d x : AV) (H : AH) : R β :=
  elemOf' E t fun _ _ es _ _ => lenS x fun n => lenS d fun n' => forceN (boolC n' n (Nat.ble n n')) fun m =>
    natC (valc kk (.lit (.int .i64 (.ofNat 0))) H) (fun _ => firstK es m x H fun new =>
    match d with
    | .sl id off es' len _ _ => boolC (.er [61]) (boolC (.er [63]) (boolC (.er [67]) (objK H id fun o => match o with
        | .cells c cs ro => boolC (boolC (.er [64]) (writeK cs off new fun cs' => updK H id (some (.cells c cs' ro)) fun H' => valc kk (.lit (.int .i64 (.ofNat m))) H') (Nat.ble (Nat.add off (Nat.mul len es)) c)) (.er [65]) ro
        | _ => .er [66]) (Nat.ble m len)) (allCell new)) (Nat.beq es es')
    | _ => .er [67]) m
noncomputable def clearKc (E : Env) {β : Type} (kk : ARes → R β) (t : TypeId) (x : AV) (H : AH) : R β :=
  elemOf' E t fun _ _ es _ z => match x with
    | .sl id off es' len _ _ => natC (valc kk undefA H) (fun _ => boolC (.er [68]) (objK H id fun o => match o with
        | .cells m cs ro => boolC (boolC (.er [69]) (repK z es len off cs fun cs' => updK H id (some (.cells m cs' ro)) fun H' => valc kk undefA H') (Nat.ble (Nat.add off (Nat.mul len es)) m)) (.er [70]) ro
        | _ => .er [71]) (Nat.beq es es')) len
    | .lit (.slice none _ _) => valc kk undefA H
    | .esl => valc kk undefA H
    | _ => .er [72]
noncomputable def minKc {β : Type} (kk : ARes → R β) (big : Bool) (x y : AV) (H : AH) : R β :=
  match x, y with
  | .lit (.int j a), .lit (.int k b) => boolC (pureV (Builtin.min2 (.int j a) (.int k b)) (fun v => valSc kk v H) (.er [73])) (pureV (Builtin.max2 (.int j a) (.int k b)) (fun v => valSc kk v H) (.er [74])) big
  | _, _ => .er [75]
noncomputable def builtinKc (E : Env) {β : Type} (kk : ARes → R β) (b : Builtin) (ts : List TypeId) (args : List AV) (H : AH) : R β :=
  match b, ts, args with
  | .append, [t, t'], [s, x] => boolC (.er [76]) (appendKc E kk t s x H) (Nat.beq t t')
  | .len, [t], [x] => lenAc E kk t x H
  | .delete, t :: _, [m, x] => deleteKc E kk t m x H
  | .copy, t :: _, [d, x] => copyKc E kk t d x H
  | .clear, [t], [x] => clearKc E kk t x H
  | .min, _, [x, y] => minKc kk false x y H
  | .max, _, [x, y] => minKc kk true x y H
  | _, _, _ => .er [77]
noncomputable def callKc {β : Type} (kk : ARes → R β) (f : AV) (args : List AV) (H : AH) : R β :=
  match f with
  | .fn g first captured => match g with
    | .func n => appK args captured fun a1 => appK first a1 fun a2 => kk (.call n a2 H)
    | .yield l => appK first args fun a => kk (.round l a H)
    | _ => .er [78]
  | _ => .er [79]
noncomputable def sliceKc (E : Env) {β : Type} (kk : ARes → R β) (t : TypeId) (x : AV) (lo hi mx : Option Operand) (fr : Tr AV) (H : AH) : R β :=
  elemOf' E t fun _ _ es _ _ => match x with
    | .sl id off es' len cap ex =>
      boolC (.er [80]) (optK E fr hi len fun h => optK E fr lo 0 fun l => match mx with
        | none => boolC (.er [81]) (boolC (.er [82])
            (forceN (Nat.sub h l) fun n => forceN (Nat.sub cap l) fun c =>
              natC (natC (valc kk (.sl id off es n c ex) H) (fun _ => boolC (valc kk .esl H) (valc kk (.sl id off es n c ex) H) ex) l)
                (fun _ => forceN (Nat.add off (Nat.mul l es)) fun off' => valc kk (.sl id off' es n c ex) H) c)
            (Nat.ble l h)) (Nat.ble h cap)
        | some m => evK E fr m fun v => natK v fun m => boolC (.er [192]) (boolC (.er [83]) (boolC (.er [84]) (boolC (.er [85])
            (forceN (Nat.sub h l) fun n => forceN (Nat.sub m l) fun c =>
              natC (valc kk (.sl id off es n c true) H) (fun _ => forceN (Nat.add off (Nat.mul l es)) fun off' => valc kk (.sl id off' es n c true) H) c)
            (Nat.ble l h)) (Nat.ble h m)) (Nat.ble m cap)) hi.isSome) (Nat.beq es es')
    | .lit (.slice none 0 0) => boolC (.er [192]) (optK E fr hi 0 fun h => optK E fr lo 0 fun l => optK E fr mx 0 fun m => natC (natC (natC (valc kk (.lit (.slice none 0 0)) H) (fun _ => .er [86]) m) (fun _ => .er [86]) l) (fun _ => .er [86]) h) (boolC true hi.isSome mx.isSome)
    | .esl => optK E fr hi 0 fun h => optK E fr lo 0 fun l => match mx with | none => natC (natC (valc kk .esl H) (fun _ => .er [87]) l) (fun _ => .er [87]) h | _ => .er [87]
    | _ => .er [88]
noncomputable def indexAddrKc (E : Env) {β : Type} (kk : ARes → R β) (t : TypeId) (x : AV) (i : Nat) (H : AH) : R β :=
  tiK E t fun d _ _ _ => match d, x with
    | .slice e, .sl id off es n _ _ => tiK E e fun _ s _ _ => boolC (.er [89]) (boolC (.er [90, i, n]) (forceN (Nat.add off (Nat.mul i es)) fun o => valc kk (.ptr id o) H) (Nat.blt i n)) (Nat.beq es s)
    | .array n e, .ptr id off => tiK E e fun _ s _ _ => boolC (.er [91, i, n]) (forceN (Nat.add off (Nat.mul i s)) fun o => valc kk (.ptr id o) H) (Nat.blt i n)
    | _, _ => .er [92, t]
noncomputable def indexKc (E : Env) {β : Type} (kk : ARes → R β) (t : TypeId) (x : AV) (i : Nat) (H : AH) : R β :=
  tiK E t fun d _ _ _ => match d, x with
    | .string, .lit (.string s) => nthK s.data.toList i (fun b => valSc kk (.int .u8 (.ofNat b.toNat)) H) (.er [96])
    | .array n e, .agg l => tiK E e fun d' s _ _ => boolC (.er [97]) (partK (Nat.mul i s) s (isAggD d') l fun v => valc kk v H) (Nat.blt i n)
    | _, _ => .er [98, t]
noncomputable def makeSliceKc (E : Env) {β : Type} (kk : ARes → R β) (t : TypeId) (n c : Nat) (H : AH) : R β :=
  elemOf' E t fun _ _ es b z => boolC (.er [99]) (boolC (.er [100]) (boolC (.er [101]) (repK z es c 0 .e fun t' => newK H (.cells (Nat.mul c es) t' false) fun id H' => valc kk (.sl id 0 es n c true) H')
    (Nat.ble n c)) (Nat.ble (Nat.mul b c) 140737488355328)) (Nat.ble c 9223372036854775807)

noncomputable def opKc (E : Env) {β : Type} (kk : ARes → R β) (fr : Tr AV) (o : Op) (H : AH) : R β :=
  match o with
  | .move x => evK E fr x fun v => valc kk v H
  | .assign x => evK E fr x fun v => valc kk v H
  | .pick c a b => evK E fr c fun v => match v with
    | .lit (.bool b') => boolC (evK E fr b fun v => valc kk v H) (evK E fr a fun v => valc kk v H) b'
    | _ => .er [102]
  | .alloc t => tiK E t fun _ s _ z => writeK .e 0 z fun t' => newK H (.cells s t' false) fun id H' => valc kk (.ptr id 0) H'
  | .box _ x => evK E fr x fun v => lenK (cellsOf v) fun n => boolC (.er [103]) (writeK .e 0 (cellsOf v) fun t' => newK H (.cells n t' false) fun id H' => valc kk (.ptr id 0) H') (allCell (cellsOf v))
  | .build t parts => tiK E t fun d _ _ z => match d with
    | .struct _ => fillK E fr (fun i k => fieldK E t i fun off s _ => k off s) parts.toList z fun l => valc kk (.agg l) H
    | .array n e => tiK E e fun _ s _ _ => fillK E fr (fun i k => boolC (.er [104]) (k (Nat.mul i s) s) (Nat.blt i n)) parts.toList z fun l => valc kk (.agg l) H
    | _ => .er [105]
  | .buildSlice t n parts => elemOf' E t fun _ _ es _ z => boolC (.er [194]) (boolC (.er [106]) (repK z es n 0 .e fun t0 => fillT E fr es n parts.toList t0 fun t' => newK H (.cells (Nat.mul n es) t' false) fun id H' => valc kk (.sl id 0 es n n true) H') (Nat.ble (Nat.mul n es) 16777216)) (Nat.ble n 9223372036854775807)
  | .load t a => evK E fr a fun a => loadK E t a H fun v => valc kk v H
  | .store t a x => evK E fr a fun a => evK E fr x fun x => storeK E t a x H fun H' => valc kk undefA H'
  | .nilCheck x => evK E fr x fun v => match v with
    | .ptr _ _ => valc kk v H
    | .fn (.func _) _ _ => valc kk v H
    | _ => .er [107]
  | .binOp op t x y _ => evK E fr x fun x => evK E fr y fun y => binKc E kk op t x y H
  | .unOp op _ x => evK E fr x fun v => match v with
    | .lit x => pureV (Op.unary op x) (fun v => valSc kk v H) (.er [108])
    | _ => .er [109]
  | .convert src dst x => evK E fr x fun v => tiK E src fun _ _ _ _ => tiK E dst fun d _ _ _ => match d, v with
    | .int k, .lit (.int _ n) => pureV (Conv.intToInt k n) (fun v => valSc kk v H) (.er [110])
    | _, _ => .er [111]
  | .makeFunc f first captured => match f with
    | .func _ => mapK (evK E fr) first.toList fun a => mapK (evK E fr) captured.toList fun b => valc kk (.fn f a b) H
    | _ => .er [184]
  | .makeMap t r => tiK E t fun d _ _ _ => match d with
    | .map kt _ => optK E fr r 0 fun _ => getK E.ky kt (fun _ => newK H (.map kt 0 []) fun id H' => valc kk (.map id) H') (.er [193, kt])
    | _ => .er [112]
  | .makeSlice t l c => evK E fr l fun l => natK l fun l => evK E fr c fun c => natK c fun c => makeSliceKc E kk t l c H
  | .slice t x lo hi mx => evK E fr x fun x => sliceKc E kk t x lo hi mx fr H
  | .fieldAddr t x f => evK E fr x fun v => match v with
    | .ptr id off => fieldK E t f fun o s _ => natC (.er [113]) (fun _ => forceN (Nat.add off o) fun o' => valc kk (.ptr id o') H) s
    | _ => .er [114, t, f]
  | .field t x f => evK E fr x fun v => match v with
    | .agg l => fieldK E t f fun o s ag => partK o s ag l fun v => valc kk v H
    | _ => .er [115]
  | .indexAddr t x i => evK E fr x fun x => evK E fr i fun i => natK i fun i => indexAddrKc E kk t x i H
  | .index t x i => evK E fr x fun x => evK E fr i fun i => natK i fun i => indexKc E kk t x i H
  | .lookup t m x ok => evK E fr m fun m => evK E fr x fun x => lookupKc E kk t m x ok H
  | .mapUpdate t m x v => evK E fr m fun m => evK E fr x fun x => evK E fr v fun v => updateKc E kk t m x v H
  | .insert t m x v => evK E fr m fun m => evK E fr x fun x => evK E fr v fun v => updateKc E kk t m x v H
  | .mapEntry t m x => evK E fr m fun m => evK E fr x fun x => entryKc E kk t m x H
  | .entryStore _ m x v => evK E fr m fun m => evK E fr x fun x => evK E fr v fun v => stampKc kk m x v H
  | .extract x i => evK E fr x fun v => match v with
    | .tup l => nthK l i (fun v => valc kk v H) (.er [116])
    | _ => .er [117]
  | .call c => match c.callee with
    | .builtin b => mapK (evK E fr) c.args.toList fun args => builtinKc E kk b c.argTypes.toList args H
    | .value f => evK E fr f fun f => mapK (evK E fr) c.args.toList fun args => callKc kk f args H
    | _ => .er [118]
  | _ => .er [119]

/-! ### statements -/
abbrev Goc (β : Type) := Task → AH → (AV → AH → R β) → R β
abbrev Kt (β : Type) := AEx → AFr → AH → R β
section
variable (E : Env) {β : Type} (rc : Goc β)
noncomputable def gotKc (fr : AFr) (d : Option Tmp) (k : AFr → AH → R β) (r : ARes) : R β :=
  match r with
  | .val v H' => dstK fr d v fun fr' => k fr' H'
  | .call f args H' => rc (.call f args) H' fun v H'' => dstK fr d v fun fr' => k fr' H''
  | .round l args H' => rc (.round l args) H' fun v H'' => dstK fr d v fun fr' => k fr' H''
noncomputable def operKc (fr : AFr) (ops : List Oper) (o : Oper) (H : AH) (k : AFr → AH → R β) : R β :=
  wantedK fr ops o.guard
    (fun _ => opKc E (gotKc rc fr o.dst k) fr.slots o.op H)
    (fun _ => dstK fr o.dst undefA fun fr' => k fr' H)
noncomputable def opsKc (ops : List Oper) (l : List Oper) (k : AFr → AH → R β) : AFr → AH → R β :=
  listR (γ := AFr) (β := AH → R β) k (fun o _ ih fr H => operKc E rc fr ops o H ih) l
noncomputable def sameKc (fr : AFr) (d : Option Tmp) (i : Nat) (k : Unit → R β) (r : ARes) : R β :=
  match r with
  | .val v _ => (match d with
      | none => k ()
      | some t => getK fr.slots t (fun u => boolC (.er [123, fr.fn, i]) (k ()) (eqA u v)) (.er [124]))
  | _ => .er [125, fr.fn, i]
noncomputable def againKc (fr : AFr) (ops : List Oper) (i : Nat) (H : AH) (k : Unit → R β) : R β :=
  nthK ops i (fun o => wantedK fr ops o.guard (fun _ => opKc E (sameKc fr o.dst i k) fr.slots o.op H) k) (.er [126])
noncomputable def againLc (fr : AFr) (ops : List Oper) (l : List Nat) (H : AH) (k : Unit → R β) : R β :=
  listR (γ := Unit) (β := R β) k (fun i _ ih _ => againKc E fr ops i H ih) l ()
noncomputable def planKc (ops : List Oper) (l : List PStep) (k : AFr → AH → R β) : AFr → AH → R β :=
  listR (γ := AFr) (β := AH → R β) k (fun p _ ih fr H => match p with
    | .op i => nthK ops i (fun o => operKc E rc fr ops o H ih) (.er [127])
    | .wr i re => nthK ops i (fun o => operKc E rc fr ops o H fun fr' H' => againLc E fr' ops re H' fun _ => ih fr' H') (.er [128])) l

abbrev Sc (β : Type) := AFr → AH → Kt β → R β
noncomputable def codeRc (m : Code → Sc β) (hseq : Sc β → Sc β → Sc β) (hcond : Operand → Sc β → Sc β → Sc β) (hblock : Nat → Sc β → Sc β) (hloop : Sc β → Sc β) (c : Code) : Sc β :=
  Code.rec (motive := fun _ => Sc β) (m .skip) (fun id ops d => m (.region id ops d)) (fun _ _ a b => hseq a b) (fun x _ _ a b => hcond x a b) (fun id _ a => hblock id a) (fun _ a => hloop a)
    (fun f ps as bd _ _ => m (.rangeFunc f ps as bd)) (fun id => m (.exit id)) (fun c _ => m (.scope c)) (fun l => m (.label l)) (fun l => m (.goto l)) (m .ret) (fun w => m (.refuse w)) c
noncomputable def seqSc (a b : Sc β) (fr : AFr) (H : AH) (k : Kt β) : R β :=
  a fr H fun ex fr' H' => match ex with
    | .normal => b fr' H' k
    | .exit j => k (.exit j) fr' H'
    | .ret => k .ret fr' H'
noncomputable def condSc (x : Operand) (a b : Sc β) (fr : AFr) (H : AH) (k : Kt β) : R β :=
  evK E fr.slots x fun v => match v with
    | .lit (.bool c) => boolC (b fr H k) (a fr H k) c
    | _ => .er [129]
noncomputable def blockSc (id : Nat) (a : Sc β) (fr : AFr) (H : AH) (k : Kt β) : R β :=
  a fr H fun ex fr' H' => match ex with
    | .normal => k .normal fr' H'
    | .exit j => boolC (k (.exit j) fr' H') (k .normal fr' H') (Nat.beq j id)
    | .ret => k .ret fr' H'
noncomputable def loopSc (a : Sc β) (fr : AFr) (H : AH) (k : Kt β) : R β :=
  natR (α := AFr) (β := AH → R β) (fun fr _ => .er [fr.fn, 130]) (fun _ ih fr H => a fr H fun ex fr' H' => match ex with
    | .normal => ih fr' H'
    | .exit j => k (.exit j) fr' H'
    | .ret => k .ret fr' H') E.lim fr H
noncomputable def jumpSc (pend : Option Code) (fr : AFr) (H : AH) (k : Kt β) : R β :=
  match pend with
  | none => k .normal fr H
  | some c => match c with
    | .ret => k .ret fr H
    | .exit id => k (.exit id) fr H
    | _ => .er [132]
noncomputable def doneSc (l : Nat) (fr' : AFr) (k : Kt β) (H3 : AH) : R β :=
  objK H3 l fun o => match o with
    | .loop st pend f n s ps as bd d => (match st with
      | .busy => .er [133]
      | .ready => updK H3 l (some (.loop .exhausted pend f n s ps as bd d)) fun H4 => jumpSc pend fr' H4 k
      | .done => updK H3 l (some (.loop .exhausted pend f n s ps as bd d)) fun H4 => jumpSc pend fr' H4 k
      | .exhausted => updK H3 l (some (.loop .exhausted pend f n s ps as bd d)) fun H4 => jumpSc pend fr' H4 k)
    | _ => .er [134]
noncomputable def rangeSc (g : Operand) (ps : List Tmp) (as bd : Code) (fr : AFr) (H : AH) (k : Kt β) : R β :=
  evK E fr.slots g fun gv => enterS fr ps as bd H fun l fr' H1 =>
    callKc (fun r => match r with
      | .call f args H2 => rc (.call f args) H2 fun _ H3 => doneSc l fr' k H3
      | _ => .er [135]) gv [.fn (.yield l) [] []] H1
noncomputable def leafSc (c : Code) (fr : AFr) (H : AH) (k : Kt β) : R β :=
  match c with
  | .skip => k .normal fr H
  | .ret => k .ret fr H
  | .exit id => k (.exit id) fr H
  | .region id ops d => boolC (opsKc E rc ops.toList ops.toList (fun fr' H' => k .normal fr' H') fr H)
      (getK E.pl fr.fn (fun tb => getK tb id (fun pl => planKc E rc ops.toList pl (fun fr' H' => k .normal fr' H') fr H) (.er [136, fr.fn, id])) (.er [137, fr.fn])) d
  | .rangeFunc g ps as bd => rangeSc E rc g ps.toList as bd fr H k
  | _ => .er [138]
noncomputable def codeSc (c : Code) : Sc β := codeRc (leafSc E rc) seqSc (condSc E) blockSc (loopSc E) c
noncomputable def endSc (fn : Func) (k : AV → AH → R β) (ex : AEx) (fr : AFr) (H1 : AH) : R β :=
  match ex with
  | .exit _ => .er [159]
  | _ => match fr with
    | ⟨s', _, m, _, _⟩ => eraseL m H1 fun H2 => resK E s' H2 fn.results.toList fun v => k v H2
noncomputable def bodySc (f : FuncId) (args : List AV) (H : AH) (k : AV → AH → R β) : R β :=
  getK E.ft f (fun fn => match fn.body with
    | none => .er [158, f]
    | some c => slotsK args fun n s => forceN (Nat.add n (Nat.sub fn.ntmps n)) fun n' =>
      codeSc E rc c ⟨s, n', [], none, f⟩ H (endSc E fn k)) (.er [160, f])
noncomputable def behindSc (l : Nat) (k : AV → AH → R β) (ex : AEx) (H3 : AH) : R β :=
  objK H3 l fun o => match o with
    | .loop _ _ f n s ps as bd d => (match ex with
      | .normal => updK H3 l (some (.loop .ready none f n s ps as bd d)) fun H4 => k (.lit (.bool true)) H4
      | .ret => updK H3 l (some (.loop .done (some .ret) f n s ps as bd d)) fun H4 => k (.lit (.bool false)) H4
      | .exit id => updK H3 l (some (.loop .done (some (.exit id)) f n s ps as bd d)) fun H4 => k (.lit (.bool false)) H4)
    | _ => .er [165]
noncomputable def innerSc (l : Nat) (bd0 : Code) (k : AV → AH → R β) (ex : AEx) (fr : AFr) (H1 : AH) : R β :=
  match ex with
  | .normal => objK H1 l fun o => (match o with
    | .loop st pend f n s ps as bd d => (match st with
      | .ready => updK H1 l (some (.loop .busy pend f n s ps as bd d)) fun H2 => codeSc E rc bd0 fr H2 fun ex _ H3 => behindSc l k ex H3
      | _ => .er [166])
    | _ => .er [167])
  | _ => .er [168]
noncomputable def roundSc (l : Nat) (args : List AV) (H : AH) (k : AV → AH → R β) : R β :=
  objK H l fun o => match o with
    | .loop st _ f n s ps as bd0 _ => (match st with
      | .ready => setPs n ps args s fun s1 => codeSc E rc as ⟨s1, n, [], some l, f⟩ H (innerSc E rc l bd0 k)
      | _ => .er [169])
    | _ => .er [170]
noncomputable def hookSc (h : Nat) (args : List AV) (H : AH) (k : AV → AH → R β) : R β :=
  match hookK E h args H with
  | .er l => .er l
  | .ok p => match p with | (v, H') => k v H'
end

/-- Calls and rounds, so deep at most. -/
noncomputable def goKc (E : Env) {β : Type} (n : Nat) : Goc β :=
  natR (α := Task) (β := AH → (AV → AH → R β) → R β) (fun _ _ _ => .er [171]) (fun _ rc t H k => match t with
    | .call f args => getK E.hk f (fun h => natC (bodySc E rc f args H k) (fun h' => natC (bodySc E rc f args H k) (fun _ => hookSc E h args H k) h') h) (bodySc E rc f args H k)
    | .round l args => roundSc E rc l args H k) n
/-- The value alone, if it is no address. -/
noncomputable def lastK (v : AV) (_ : AH) : R Value :=
  match v with
  | .lit v => forceV v fun v' => .ok v'
  | _ => .er [210]
noncomputable def runKc (P : Program) (pl : Plans) (ky : List (Nat × KS)) (hk : List (Nat × Nat)) (tab : List Nat) (fuel : Nat) (f : FuncId) (args : List AV) : R Value :=
  envK P pl ky hk fun E => heapK tab fun H => goKc E fuel (.call f args) H lastK
end Go.Proofs.YtclljjfkaljdnaaGreatDoor
