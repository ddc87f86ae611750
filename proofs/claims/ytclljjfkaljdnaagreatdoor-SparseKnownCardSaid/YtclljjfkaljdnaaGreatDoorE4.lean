/- What the evaluator's numbers stand for: a renaming from its blocks to the machine's; the heap, the frame, under it. No program in sight. -/
import Derived.Test.YtclljjfkaljdnaaGreatDoorE3
import Derived.Laws.CopyRow
import Derived.Laws.Cells
import Derived.Orders
namespace Go.Proofs.YtclljjfkaljdnaaGreatDoor
open Go.RowKit

/-! ### what an operation may do; plans of regions that draw their order -/
inductive Cls where
  | pu | ro | al | wr
  deriving DecidableEq
def cls : Op → Cls
  | .move _ | .assign _ | .pick .. | .build .. | .nilCheck _ | .binOp .. | .unOp .. | .convert .. | .makeFunc .. | .slice .. | .fieldAddr .. | .field .. | .indexAddr .. | .index .. | .extract .. => .pu
  | .load .. | .lookup .. => .ro
  | .alloc _ | .box .. | .buildSlice .. | .makeMap .. | .makeSlice .. => .al
  | .call c => match c.callee with
    | .builtin .min | .builtin .max => .pu
    | .builtin .len => .ro
    | _ => .wr
  | _ => .wr

/-- m is ahead of i, whatever the order. -/
inductive Anc (ops : Array Oper) : Nat → Nat → Prop
  | edge {i m : Nat} {o : Oper} {e : Edge} : ops[i]? = some o → e ∈ o.after → Region.binds .any e = true → e.on = m → Anc ops i m
  | step {i p m : Nat} {o : Oper} {e : Edge} : ops[i]? = some o → e ∈ o.after → Region.binds .any e = true → e.on = p → Anc ops p m → Anc ops i m

def PStep.i : PStep → Nat
  | .op i => i
  | .wr i _ => i
def PStep.isWr : PStep → Bool
  | .op _ => false
  | .wr _ _ => true

/-- What is asked of a step of a plan, behind those ahead of it. -/
structure PC (ops : Array Oper) (pre : List PStep) (p : PStep) : Prop where
  lt : p.i < ops.size
  fresh : ∀ q ∈ pre, q.i ≠ p.i
  preds : ∀ o, ops[p.i]? = some o → ∀ e ∈ o.after, Region.binds .any e = true → ∃ q ∈ pre, q.i = e.on
  wrs : ∀ q ∈ pre, q.isWr = true → Anc ops p.i q.i
  cl : ∀ i, p = .op i → ∀ o, ops[i]? = some o → cls o.op ≠ .wr
  rd : ∀ w re, p = .wr w re → ∀ q ∈ pre, ∀ o, ops[q.i]? = some o → cls o.op = .ro → q.i ∈ re ∨ Anc ops w q.i
  rlook : ∀ w re, p = .wr w re → ∀ i ∈ re, ∀ (o : Oper) (m : Nat) (o' : Oper) (t : Tmp), ops[i]? = some o → ops[m]? = some o' → o'.dst = some t → t ∈ o.looksAt ops → Anc ops i m
structure PlanOK (ops : Array Oper) (pl : List PStep) : Prop where
  pc : ∀ (j : Nat) (p : PStep), pl[j]? = some p → PC ops (pl.take j) p
  surj : ∀ i, i < ops.size → ∃ (j : Nat) (p : PStep), pl[j]? = some p ∧ p.i = i
  dst1 : ∀ (i i' : Nat) (o o' : Oper) (t : Tmp), ops[i]? = some o → ops[i']? = some o' → o.dst = some t → o'.dst = some t → i = i'
  look : ∀ (i m : Nat) (o o' : Oper) (t : Tmp), ops[i]? = some o → ops[m]? = some o' → o'.dst = some t → t ∈ o.looksAt ops → m = i ∨ Anc ops i m ∨ Anc ops m i
  sel : Region.noSelect ops = true

/-- The regions of a code that draw their order have plans that serve. -/
def OKc (E : Env) (f : FuncId) : Code → Prop
  | .region id ops true => ∀ tb pl, E.pl.get f = some tb → tb.get id = some pl → PlanOK ops pl
  | .seq a b => OKc E f a ∧ OKc E f b
  | .cond _ a b => OKc E f a ∧ OKc E f b
  | .block _ a => OKc E f a
  | .loop a => OKc E f a
  | .rangeFunc _ _ a b => OKc E f a ∧ OKc E f b
  | _ => True

/-- Of each number: the block, how many cells ahead of its first, and how many cells the block has. -/
abbrev Ren := Nat → Option (Nat × Nat × Nat)

mutual
inductive Rl (ρ : Ren) : AV → Value → Prop
  | lit (v : Value) : Rl ρ (.lit v) v
  | ptr {id off b s N : Nat} : ρ id = some (b, s, N) → Rl ρ (.ptr id off) (.pointer (some ⟨b, s + off, none⟩))
  | sl {id off es len cap : Nat} {ex : Bool} {b s N c : Nat} : ρ id = some (b, s, N) → (ex = true → c = cap) → cap ≤ c → len ≤ cap → s + off + c * es ≤ N → c ≤ maxLen →
      Rl ρ (.sl id off es len cap ex) (.slice (some ⟨b, s + off, none⟩) len c)
  | esl {a : Addr} {c : Nat} : Rl ρ .esl (.slice (some a) 0 c)
  | map {id b s N : Nat} : ρ id = some (b, s, N) → Rl ρ (.map id) (.map (some b))
  | yld {id b s N : Nat} : ρ id = some (b, s, N) → Rl ρ (.fn (.yield id) [] []) (.func (.yield b) #[] #[])
  | fn {f : FuncId} {l m : List AV} {l' m' : Array Value} : RlL ρ l l'.toList → RlL ρ m m'.toList → Rl ρ (.fn (.func f) l m) (.func (.func f) l' m')
  | agg {l : List AV} {l' : Array Value} : RlL ρ l l'.toList → Rl ρ (.agg l) (.agg l')
  | tup {l : List AV} {l' : Array Value} : RlL ρ l l'.toList → Rl ρ (.tup l) (.tuple l')
inductive RlL (ρ : Ren) : List AV → List Value → Prop
  | nil : RlL ρ [] []
  | cons {a : AV} {v : Value} {l : List AV} {m : List Value} : Rl ρ a v → RlL ρ l m → RlL ρ (a :: l) (v :: m)
end

def Ext (ρ ρ' : Ren) : Prop := ∀ id p, ρ id = some p → ρ' id = some p

mutual
theorem Rl.mono {ρ ρ' : Ren} (h : Ext ρ ρ') : ∀ {a : AV} {v : Value}, Rl ρ a v → Rl ρ' a v
  | _, _, .lit v => .lit v
  | _, _, .ptr e => .ptr (h _ _ e)
  | _, _, .sl e h1 h2 h3 h4 h5 => .sl (h _ _ e) h1 h2 h3 h4 h5
  | _, _, .esl => .esl
  | _, _, .map e => .map (h _ _ e)
  | _, _, .yld e => .yld (h _ _ e)
  | _, _, .fn h1 h2 => .fn (RlL.mono h h1) (RlL.mono h h2)
  | _, _, .agg h1 => .agg (RlL.mono h h1)
  | _, _, .tup h1 => .tup (RlL.mono h h1)
theorem RlL.mono {ρ ρ' : Ren} (h : Ext ρ ρ') : ∀ {l : List AV} {m : List Value}, RlL ρ l m → RlL ρ' l m
  | _, _, .nil => .nil
  | _, _, .cons h1 h2 => .cons (Rl.mono h h1) (RlL.mono h h2)
end

namespace RlL
variable {ρ : Ren}
theorem length {l : List AV} {m : List Value} (h : RlL ρ l m) : l.length = m.length := by
  induction l generalizing m with
  | nil => cases h; rfl
  | cons a l ih => cases h with | cons _ h2 => simp [ih h2]
theorem get {l : List AV} {m : List Value} (h : RlL ρ l m) {i : Nat} {a : AV} (ha : l[i]? = some a) : ∃ v, m[i]? = some v ∧ Rl ρ a v := by
  induction l generalizing m i with
  | nil => simp at ha
  | cons x l ih =>
    cases h with
    | cons h1 h2 =>
      cases i with
      | zero => simp at ha; subst ha; exact ⟨_, rfl, h1⟩
      | succ i => simp at ha; simpa using ih h2 ha
theorem of_get {l : List AV} {m : List Value} (hl : l.length = m.length) (h : ∀ (i : Nat) (a : AV) (v : Value), l[i]? = some a → m[i]? = some v → Rl ρ a v) : RlL ρ l m := by
  induction l generalizing m with
  | nil => cases m with | nil => exact .nil | cons _ _ => simp at hl
  | cons a l ih =>
    cases m with
    | nil => simp at hl
    | cons v m => exact .cons (h 0 a v rfl rfl) (ih (by simpa using hl) fun i a v h1 h2 => h (i + 1) a v (by simpa using h1) (by simpa using h2))
theorem append {l l2 : List AV} {m m2 : List Value} (h : RlL ρ l m) (h2 : RlL ρ l2 m2) : RlL ρ (l ++ l2) (m ++ m2) := by
  induction l generalizing m with
  | nil => cases h; simpa using h2
  | cons a l ih => cases h with | cons h1 h3 => exact .cons h1 (ih h3)
theorem take {l : List AV} {m : List Value} (h : RlL ρ l m) (n : Nat) : RlL ρ (l.take n) (m.take n) := by
  induction l generalizing m n with
  | nil => cases h; simpa using RlL.nil
  | cons a l ih => cases h with | cons h1 h3 => cases n with | zero => exact .nil | succ n => exact .cons h1 (ih h3 n)
theorem drop {l : List AV} {m : List Value} (h : RlL ρ l m) (n : Nat) : RlL ρ (l.drop n) (m.drop n) := by
  induction l generalizing m n with
  | nil => cases h; simpa using RlL.nil
  | cons a l ih => cases h with | cons h1 h3 => cases n with | zero => exact .cons h1 h3 | succ n => exact ih h3 n
end RlL

/-- Two lists, thing by thing. -/
inductive F2 {α γ : Type} (S : α → γ → Prop) : List α → List γ → Prop
  | nil : F2 S [] []
  | cons {a : α} {b : γ} {l : List α} {m : List γ} : S a b → F2 S l m → F2 S (a :: l) (b :: m)
namespace F2
variable {α γ : Type} {S T : α → γ → Prop}
theorem mono (h : ∀ a b, S a b → T a b) {l : List α} {m : List γ} (hl : F2 S l m) : F2 T l m := by
  induction hl with | nil => exact .nil | cons h1 _ ih => exact .cons (h _ _ h1) ih
theorem length {l : List α} {m : List γ} (h : F2 S l m) : l.length = m.length := by
  induction h with | nil => rfl | cons _ _ ih => simp [ih]
theorem append {l l2 : List α} {m m2 : List γ} (h : F2 S l m) (h2 : F2 S l2 m2) : F2 S (l ++ l2) (m ++ m2) := by
  induction h with | nil => simpa using h2 | cons h1 _ ih => exact .cons h1 ih
end F2
theorem RlL.f2 {ρ : Ren} {l : List AV} {m : List Value} : RlL ρ l m ↔ F2 (Rl ρ) l m := by
  constructor
  · intro h
    induction l generalizing m with
    | nil => cases h; exact .nil
    | cons a l ih => cases h with | cons h1 h2 => exact .cons h1 (ih h2)
  · intro h
    induction h with | nil => exact .nil | cons h1 _ ih => exact .cons h1 ih

/-! ### objects -/
def AO.isRo : AO → Bool
  | .cells _ _ ro => ro
  | _ => false
def KP : KS → Value → Prop
  | .one c, v => isKC c v = true
  | .agg cs, v => ∃ xs, v = .agg ⟨xs⟩ ∧ areKC cs xs = true

/-- An object of the evaluator's and the block that it stands for. -/
def OR (E : Env) (ρ : Ren) (o : AO) (s N : Nat) (x : Option Obj) : Prop :=
  match o with
  | .cells n t ro => ∃ c elem fz, x = some (.cells c elem fz) ∧ c.size = N ∧ s + n ≤ N ∧ (ro = false → fz = (0, 0)) ∧ (∀ (i : Nat) av, i < n → t.get i = some av → ∃ v, c[s + i]? = some v ∧ Rl ρ av v) ∧ (n = 1 → s = 0)
  | .bag l => ∃ c elem, x = some (.cells c elem (0, 0)) ∧ c.size = N ∧ s + l.length ≤ N ∧ ((c.toList.drop s).take l.length).Perm l
  | .map kt cl l => ∃ es, x = some (.map es cl) ∧ (∃ ks, E.ky.get kt = some ks ∧ ∀ e ∈ l, KP ks e.k) ∧ F2 (fun (e : AE) (e' : MapEntry) => e'.key = e.k ∧ e'.born = e.b ∧ Rl ρ e.v e'.val) l es.toList
  | .loop st pend fn size tmps params assign body df => OKc E fn assign ∧ OKc E fn body ∧ ∃ r, x = some (.loop r) ∧ r.state = st ∧ r.pending = pend ∧ r.tmps.size = size ∧
      (∀ (i : Nat) av, tmps.get i = some av → ∃ v, r.tmps[i]? = some v ∧ Rl ρ av v) ∧ r.params.toList = params ∧ r.assign = assign ∧ r.body = body ∧ ∃ s' N', ρ df = some (r.defers, s', N')
  | .deferred => x = some (.deferred (some []))

theorem OR.mono {E : Env} {ρ ρ' : Ren} {o : AO} {s N : Nat} {x : Option Obj} (hx : Ext ρ ρ') (h : OR E ρ o s N x) : OR E ρ' o s N x := by
  cases o with
  | cells n t ro =>
    obtain ⟨c, e, fz, h1, h2, h3, h4, h5, h6⟩ := h
    exact ⟨c, e, fz, h1, h2, h3, h4, fun i av hi ha => let ⟨v, a, b⟩ := h5 i av hi ha; ⟨v, a, b.mono hx⟩, h6⟩
  | bag l => exact h
  | map kt cl l =>
    obtain ⟨es, h1, h2, h3⟩ := h
    exact ⟨es, h1, h2, h3.mono fun _ _ ⟨a, b, c⟩ => ⟨a, b, c.mono hx⟩⟩
  | loop st pend fn size tmps params assign body df =>
    obtain ⟨k1, k2, r, h1, h2, h3, h5, h6, h7, h8, h9, s', N', h10⟩ := h
    exact ⟨k1, k2, r, h1, h2, h3, h5, fun i av ha => let ⟨v, a, b⟩ := h6 i av ha; ⟨v, a, b.mono hx⟩, h7, h8, h9, s', N', hx _ _ h10⟩
  | deferred => exact h

/-- The heap under a renaming: the machine's world w, begun at w0. -/
structure HR (E : Env) (w0 : World) (ρ : Ren) (H : AH) (w : World) : Prop where
  lt : ∀ id p, ρ id = some p → id < H.next
  obj : ∀ id b s N o, ρ id = some (b, s, N) → H.t.get id = some o → OR E ρ o s N w.heap[b]?
  inj : ∀ i j b s N s' N' o o', ρ i = some (b, s, N) → ρ j = some (b, s', N') → H.t.get i = some o → H.t.get j = some o' → o'.isRo = false → i = j
  own : ∀ id b s N o, ρ id = some (b, s, N) → H.t.get id = some o → o.isRo = false → w0.heap.size ≤ b
  blk : ∀ id b s N, ρ id = some (b, s, N) → b < w.heap.size
  glob : ∀ g id, E.gl.get g = some id → ∃ N, ρ id = some (g, 0, N)
  chg : Chg (fun _ => False) w0 w
  fr : ∀ id, H.next ≤ id → H.t.get id = none

/-- From one state to a later one. -/
structure Later (ρ : Ren) (H : AH) (ρ' : Ren) (H' : AH) : Prop where
  ext : Ext ρ ρ'
  keep : ∀ id, id < H.next → ρ id = none → ρ' id = none ∧ H'.t.get id = H.t.get id
  next : H.next ≤ H'.next

theorem Later.refl (ρ : Ren) (H : AH) : Later ρ H ρ H := ⟨fun _ _ h => h, fun _ _ h => ⟨h, rfl⟩, Nat.le_refl _⟩
theorem Later.trans {ρ ρ1 ρ2 : Ren} {H H1 H2 : AH} (h : Later ρ H ρ1 H1) (h2 : Later ρ1 H1 ρ2 H2) : Later ρ H ρ2 H2 :=
  ⟨fun id p hp => h2.ext _ _ (h.ext _ _ hp), fun id hid hn => by
    obtain ⟨a, b⟩ := h.keep id hid hn
    obtain ⟨c, d⟩ := h2.keep id (Nat.lt_of_lt_of_le hid h.next) a
    exact ⟨c, d.trans b⟩, Nat.le_trans h.next h2.next⟩

/-- A heap with one object more; with one object turned. -/
def Added (H : AH) (o : AO) (H' : AH) : Prop := H'.next = H.next + 1 ∧ ∀ j, H'.t.get j = if j = H.next then some o else H.t.get j
def Turned (H : AH) (id : Nat) (o : Option AO) (H' : AH) : Prop := H'.next = H.next ∧ ∀ j, H'.t.get j = if j = id then o else H.t.get j

def Ren.add (ρ : Ren) (id : Nat) (p : Nat × Nat × Nat) : Ren := fun j => if j = id then some p else ρ j
theorem Ren.add_ext {ρ : Ren} {id : Nat} {p : Nat × Nat × Nat} (h : ρ id = none) : Ext ρ (ρ.add id p) := by
  intro j q hq
  unfold Ren.add
  split
  · rename_i e; subst e; rw [h] at hq; cases hq
  · exact hq

theorem alloc_size (w : World) (o : Obj) : (w.alloc o).heap.size = w.heap.size + 1 := by show (w.heap.push o).size = _; simp
section
variable {E : Env} {w0 w : World} {ρ : Ren} {H H' : AH}

theorem HR.fresh (h : HR E w0 ρ H w) : ρ H.next = none := by
  cases e : ρ H.next with
  | none => rfl
  | some p => exact absurd (h.lt _ _ e) (Nat.lt_irrefl _)

/-- A world that differs by what is drawn alone. -/
theorem HR.drew (h : HR E w0 ρ H w) {w' : World} (h1 : w'.heap = w.heap) (h2 : w'.os = w.os) (h3 : w'.tape = w.tape) (h4 : w'.output = w.output) : HR E w0 ρ H w' :=
  ⟨h.lt, fun id b s N o h5 h6 => by rw [h1]; exact h.obj id b s N o h5 h6, h.inj, h.own, fun id b s N h5 => by rw [h1]; exact h.blk id b s N h5, h.glob,
    ⟨h2.trans h.chg.os, h3.trans h.chg.tape, h4.trans h.chg.output, by rw [h1]; exact h.chg.size, fun k hk hs => by rw [h1]; exact h.chg.block k hk hs⟩, h.fr⟩

/-- A block more that nobody knows of. -/
theorem HR.more (h : HR E w0 ρ H w) (o : Obj) : HR E w0 ρ H (w.alloc o) :=
  ⟨h.lt, fun id b s N o' h5 h6 => by rw [heap_alloc_old _ _ (h.blk id b s N h5)]; exact h.obj id b s N o' h5 h6, h.inj, h.own,
    fun id b s N h5 => Nat.lt_of_lt_of_le (h.blk id b s N h5) (by rw [alloc_size]; omega), h.glob, h.chg.alloc o, h.fr⟩

/-- An object of the evaluator's that stands for nothing yet. -/
theorem HR.added (h : HR E w0 ρ H w) {o : AO} (ha : Added H o H') : HR E w0 ρ H' w := by
  obtain ⟨hn, hg⟩ := ha
  have key : ∀ id p, ρ id = some p → H'.t.get id = H.t.get id := fun id p hp => by
    rw [hg, if_neg (Nat.ne_of_lt (h.lt id p hp))]
  refine ⟨fun id p hp => by rw [hn]; exact Nat.lt_succ_of_lt (h.lt id p hp), ?_, ?_, ?_, h.blk, h.glob, h.chg, fun id hid => by rw [hg, if_neg (by omega)]; exact h.fr id (by omega)⟩
  · intro id b s N o' h1 h2; rw [key _ _ h1] at h2; exact h.obj id b s N o' h1 h2
  · intro i j b s N s' N' o1 o2 h1 h2 h3 h4 h5; rw [key _ _ h1] at h3; rw [key _ _ h2] at h4; exact h.inj i j b s N s' N' o1 o2 h1 h2 h3 h4 h5
  · intro id b s N o' h1 h2 h3; rw [key _ _ h1] at h2; exact h.own id b s N o' h1 h2 h3
theorem Later.added {o : AO} (ha : Added H o H') (_hr : ∀ id p, ρ id = some p → id < H.next) : Later ρ H ρ H' :=
  ⟨fun _ _ h => h, fun id hid hn => ⟨hn, by rw [ha.2, if_neg (Nat.ne_of_lt hid)]⟩, by rw [ha.1]; omega⟩

/-- A number that stands for nothing yet gets a block of its own. -/
theorem HR.named (h : HR E w0 ρ H w) {id : Nat} {x : Obj} {o : AO} {s N : Nat} (hid : id < H.next) (hn : ρ id = none) (ho : H.t.get id = some o)
    (hor : OR E (ρ.add id (w.heap.size, s, N)) o s N (some x)) (hb : w0.heap.size ≤ w.heap.size) : HR E w0 (ρ.add id (w.heap.size, s, N)) H (w.alloc x) := by
  have hx := Ren.add_ext (p := (w.heap.size, s, N)) hn
  have cases : ∀ j p, (ρ.add id (w.heap.size, s, N)) j = some p → (j = id ∧ p = (w.heap.size, s, N)) ∨ ρ j = some p := by
    intro j p hp
    unfold Ren.add at hp
    split at hp
    · rename_i e; cases hp; exact .inl ⟨e, rfl⟩
    · exact .inr hp
  refine ⟨?_, ?_, ?_, ?_, ?_, ?_, h.chg.alloc x, h.fr⟩
  · intro j p hp
    rcases cases j p hp with ⟨rfl, _⟩ | hp
    · exact hid
    · exact h.lt j p hp
  · intro j b s' N' o' h1 h2
    rcases cases j _ h1 with ⟨rfl, e⟩ | h1'
    · cases e
      rw [ho] at h2; cases h2
      rw [heap_alloc_new]; exact hor
    · rw [heap_alloc_old _ _ (h.blk j b s' N' h1')]
      exact (h.obj j b s' N' o' h1' h2).mono hx
  · intro i j b s1 N1 s2 N2 o1 o2 h1 h2 h3 h4 h5
    rcases cases i _ h1 with ⟨rfl, e⟩ | h1'
    · cases e
      rcases cases j _ h2 with ⟨rfl, _⟩ | h2'
      · rfl
      · have := h.blk j _ _ _ h2'; omega
    · rcases cases j _ h2 with ⟨rfl, e⟩ | h2'
      · cases e; have := h.blk i _ _ _ h1'; omega
      · exact h.inj i j b s1 N1 s2 N2 o1 o2 h1' h2' h3 h4 h5
  · intro j b s' N' o' h1 h2 h3
    rcases cases j _ h1 with ⟨rfl, e⟩ | h1'
    · cases e; exact hb
    · exact h.own j b s' N' o' h1' h2 h3
  · intro j b s' N' h1
    rcases cases j _ h1 with ⟨rfl, e⟩ | h1'
    · cases e; rw [alloc_size]; omega
    · exact Nat.lt_of_lt_of_le (h.blk j _ _ _ h1') (by rw [alloc_size]; omega)
  · intro g i hg
    obtain ⟨N', hN⟩ := h.glob g i hg
    exact ⟨N', hx _ _ hN⟩

/-- A new object with its block. -/
theorem HR.alloc (h : HR E w0 ρ H w) {x : Obj} {o : AO} {s N : Nat} (ha : Added H o H') (hor : OR E (ρ.add H.next (w.heap.size, s, N)) o s N (some x)) :
    HR E w0 (ρ.add H.next (w.heap.size, s, N)) H' (w.alloc x) ∧ Later ρ H (ρ.add H.next (w.heap.size, s, N)) H' := by
  have hf := h.fresh
  refine ⟨(h.added ha).named (by rw [ha.1]; omega) hf (by rw [ha.2, if_pos rfl]) hor h.chg.size, ?_⟩
  refine ⟨Ren.add_ext hf, fun id hid hn => ⟨?_, by rw [ha.2, if_neg (Nat.ne_of_lt hid)]⟩, by rw [ha.1]; omega⟩
  unfold Ren.add; rw [if_neg (Nat.ne_of_lt hid)]; exact hn

/-- A block turned, and its object. -/
theorem HR.turn (h : HR E w0 ρ H w) {w' : World} {id b s N : Nat} {o o' : AO} (hi : ρ id = some (b, s, N)) (ho : H.t.get id = some o) (hro : o.isRo = false) (_hro' : o'.isRo = false) (ht : Turned H id (some o') H')
    (hor : OR E ρ o' s N w'.heap[b]?) (hsz : w'.heap.size = w.heap.size) (hbk : ∀ k, k ≠ b → w'.heap[k]? = w.heap[k]?) (h2 : w'.os = w.os) (h3 : w'.tape = w.tape) (h4 : w'.output = w.output) :
    HR E w0 ρ H' w' ∧ Later ρ H ρ H' := by
  have hB := h.own id b s N o hi ho hro
  have back : ∀ j o'', H'.t.get j = some o'' → ∃ o1, H.t.get j = some o1 ∧ (o''.isRo = false → o1.isRo = false) := by
    intro j o'' hj
    rw [ht.2] at hj
    split at hj
    · rename_i e; subst e; exact ⟨o, ho, fun _ => hro⟩
    · exact ⟨o'', hj, fun h => h⟩
  refine ⟨⟨fun j p hp => by rw [ht.1]; exact h.lt j p hp, ?_, ?_, ?_, fun j b' s' N' hj => by rw [hsz]; exact h.blk j b' s' N' hj, h.glob, ?_, fun j hj => by
      rw [ht.2, if_neg (fun e => by have := h.lt id _ hi; rw [ht.1] at hj; omega)]; exact h.fr j (by rw [ht.1] at hj; exact hj)⟩, fun _ _ h => h, fun j hj hn => ⟨hn, ?_⟩, by rw [ht.1]; omega⟩
  · intro j b' s' N' o'' h5 h6
    obtain ⟨o1, ho1, _⟩ := back j o'' h6
    rw [ht.2] at h6
    split at h6
    · rename_i e; subst e; cases h6
      rw [hi] at h5; cases h5; exact hor
    · rename_i e
      have hne : b' ≠ b := by
        rintro rfl
        exact e (h.inj j id b' s' N' s N _ _ h5 hi h6 ho hro)
      rw [hbk _ hne]; exact h.obj j b' s' N' o'' h5 h6
  · intro i j b' s1 N1 s2 N2 o1 o2 h5 h6 h7 h8 h9
    obtain ⟨_, h7', _⟩ := back i o1 h7
    obtain ⟨_, h8', hr⟩ := back j o2 h8
    exact h.inj i j b' s1 N1 s2 N2 _ _ h5 h6 h7' h8' (hr h9)
  · intro j b' s' N' o'' h5 h6 h7
    rw [ht.2] at h6
    split at h6
    · rename_i e; subst e
      rw [hi] at h5; cases h5; exact hB
    · exact h.own j b' s' N' o'' h5 h6 h7
  · exact ⟨h2.trans h.chg.os, h3.trans h.chg.tape, h4.trans h.chg.output, by rw [hsz]; exact h.chg.size, fun k hk hs => by
      rw [hbk k (by omega)]; exact h.chg.block k hk hs⟩
  · rw [ht.2, if_neg]
    rintro rfl
    rw [hi] at hn; cases hn

/-- A number is given up. -/
theorem HR.gone (h : HR E w0 ρ H w) {id : Nat} {p : Nat × Nat × Nat} (hi : ρ id = some p) (ht : Turned H id none H') : HR E w0 ρ H' w ∧ Later ρ H ρ H' := by
  have back : ∀ j o'', H'.t.get j = some o'' → H.t.get j = some o'' := by
    intro j o'' hj
    rw [ht.2] at hj
    split at hj
    · cases hj
    · exact hj
  refine ⟨⟨fun j p hp => by rw [ht.1]; exact h.lt j p hp, fun j b' s' N' o'' h5 h6 => h.obj j b' s' N' o'' h5 (back _ _ h6), fun i j b' s1 N1 s2 N2 o1 o2 h5 h6 h7 h8 h9 => h.inj i j b' s1 N1 s2 N2 o1 o2 h5 h6 (back _ _ h7) (back _ _ h8) h9,
    fun j b' s' N' o'' h5 h6 h7 => h.own j b' s' N' o'' h5 (back _ _ h6) h7, h.blk, h.glob, h.chg, fun j hj => by
      rw [ht.2]; split; rfl; exact h.fr j (by rw [ht.1] at hj; exact hj)⟩, fun _ _ h => h, fun j hj hn => ⟨hn, ?_⟩, by rw [ht.1]; omega⟩
  rw [ht.2, if_neg]
  rintro rfl
  rw [hi] at hn; cases hn
end

/-! ### what the words of the evaluator mean -/
theorem boolC_er {β : Type} {l : List Nat} {x : R β} {b : Bool} {r : β} (h : boolC (.er l) x b = .ok r) : b = true ∧ x = .ok r := by
  cases b with
  | false => cases h
  | true => exact ⟨rfl, h⟩
theorem boolC_re {β : Type} {l : List Nat} {x : R β} {b : Bool} {r : β} (h : boolC x (.er l) b = .ok r) : b = false ∧ x = .ok r := by
  cases b with
  | true => cases h
  | false => exact ⟨rfl, h⟩
theorem natC_er {β : Type} {l : List Nat} {f : Nat → R β} {n : Nat} {r : β} (h : natC (.er l) f n = .ok r) : ∃ m, n = m + 1 ∧ f m = .ok r := by
  cases n with
  | zero => cases h
  | succ m => exact ⟨m, rfl, h⟩
theorem getK_ok {α β : Type} {t : Tr α} {n : Nat} {k : α → R β} {l : List Nat} {r : β} (h : getK t n k (.er l) = .ok r) : ∃ v, t.get n = some v ∧ k v = .ok r := by
  rw [getK_eq] at h
  cases e : t.get n with
  | none => rw [e] at h; cases h
  | some v => rw [e] at h; exact ⟨v, rfl, h⟩
theorem setK_ok {α β : Type} {f : Nat} {t : Tr α} {n : Nat} {v : Option α} {k : Tr α → R β} {l : List Nat} {r : β} (h : setK f t n v k (.er l) = .ok r) :
    ∃ t', (∀ j, t'.get j = if j = n then v else t.get j) ∧ k t' = .ok r := by
  rw [setK_eq] at h
  cases e : t.set f n v with
  | none => rw [e] at h; cases h
  | some t' => rw [e] at h; exact ⟨t', Tr.set_get _ _ _ _ _ e, h⟩
theorem objK_ok {β : Type} {H : AH} {id : Nat} {k : AO → R β} {r : β} (h : objK H id k = .ok r) : ∃ o, H.t.get id = some o ∧ k o = .ok r := by
  cases H; exact getK_ok h
theorem updK_ok {β : Type} {H : AH} {id : Nat} {o : Option AO} {k : AH → R β} {r : β} (h : updK H id o k = .ok r) : ∃ H', Turned H id o H' ∧ k H' = .ok r := by
  cases H with
  | mk nx t =>
    have h' : setK (Nat.succ id) t id o (fun t' => k ⟨nx, t'⟩) (.er [3]) = .ok r := h
    obtain ⟨t', h1, h2⟩ := setK_ok h'
    exact ⟨⟨nx, t'⟩, ⟨rfl, h1⟩, h2⟩
theorem newK_ok {β : Type} {H : AH} {o : AO} {k : Nat → AH → R β} {r : β} (h : newK H o k = .ok r) : ∃ H', Added H o H' ∧ k H.next H' = .ok r := by
  cases H with
  | mk nx t =>
    have h' : setK (Nat.succ nx) t nx (some o) (fun t' => forceN (Nat.succ nx) fun nx' => k nx ⟨nx', t'⟩) (.er [1]) = .ok r := h
    obtain ⟨t', h1, h2⟩ := setK_ok h'
    rw [forceN_eq] at h2
    exact ⟨⟨nx + 1, t'⟩, ⟨rfl, h1⟩, h2⟩
theorem listR_nil {α γ β : Type} (z : γ → β) (s : α → List α → (γ → β) → γ → β) (g : γ) : listR z s [] g = z g := rfl
theorem listR_cons {α γ β : Type} (z : γ → β) (s : α → List α → (γ → β) → γ → β) (a : α) (l : List α) (g : γ) : listR z s (a :: l) g = s a l (listR z s l) g := rfl
theorem natR_zero {α β : Type} (z : α → β) (s : Nat → (α → β) → α → β) (a : α) : natR z s 0 a = z a := rfl
theorem natR_succ {α β : Type} (z : α → β) (s : Nat → (α → β) → α → β) (n : Nat) (a : α) : natR z s (n + 1) a = s n (natR z s n) a := rfl
theorem readK_spec {β : Type} {t : Tr AV} {off m : Nat} {k : List AV → R β} {r : β} (h : readK t off m k = .ok r) :
    ∃ l, l.length = m ∧ (∀ i, i < m → ∃ a, l[i]? = some a ∧ t.get (off + i) = some a) ∧ k l = .ok r := by
  have key : ∀ (m : Nat) (acc : List AV), natR (α := List AV) (β := R β) k (fun i ih acc => getK t (Nat.add off i) (fun v => ih (v :: acc)) (.er [4, off, i])) m acc = .ok r →
      ∃ l, l.length = m ∧ (∀ i, i < m → ∃ a, l[i]? = some a ∧ t.get (off + i) = some a) ∧ k (l ++ acc) = .ok r := by
    intro m
    induction m with
    | zero => intro acc h; exact ⟨[], rfl, fun i hi => absurd hi (Nat.not_lt_zero _), h⟩
    | succ m ih =>
      intro acc h
      rw [natR_succ] at h
      obtain ⟨v, h1, h2⟩ := getK_ok h
      obtain ⟨l, h3, h4, h5⟩ := ih _ h2
      refine ⟨l ++ [v], by simp [h3], fun i hi => ?_, by simpa using h5⟩
      by_cases e : i < m
      · obtain ⟨a, ha, hb⟩ := h4 i e
        exact ⟨a, by rw [List.getElem?_append_left (by omega)]; exact ha, hb⟩
      · obtain rfl : i = m := by omega
        exact ⟨v, by rw [List.getElem?_append_right (by omega), h3]; simp, h1⟩
  unfold readK at h
  obtain ⟨l, h1, h2, h3⟩ := key m [] h
  exact ⟨l, h1, h2, by simpa using h3⟩
theorem writeK_ok {β : Type} {k : Tr AV → R β} {r : β} : ∀ {l : List AV} {off : Nat} {t : Tr AV}, writeK t off l k = .ok r →
    ∃ t', (∀ j, t'.get j = if off ≤ j ∧ j < off + l.length then l[j - off]? else t.get j) ∧ k t' = .ok r
  | [], off, t, h => ⟨t, fun j => by rw [if_neg (by rw [List.length_nil]; omega)], h⟩
  | v :: l, off, t, h => by
    unfold writeK at h
    rw [listR_cons] at h
    obtain ⟨t1, h1, h2⟩ := setK_ok h
    rw [forceN_eq] at h2
    obtain ⟨t', h3, h4⟩ := writeK_ok (l := l) h2
    refine ⟨t', fun j => ?_, h4⟩
    rw [h3 j, h1 j]
    by_cases e : j = off
    · subst e
      rw [if_neg (by omega), if_pos rfl, if_pos (by simp)]
      simp
    · by_cases e2 : off.succ ≤ j ∧ j < off.succ + l.length
      · rw [if_pos e2, if_pos (by simp; omega)]
        obtain ⟨d, rfl⟩ : ∃ d, j = off + 1 + d := ⟨j - (off + 1), by omega⟩
        have e3 : off + 1 + d - off.succ = d := by omega
        have e4 : off + 1 + d - off = d + 1 := by omega
        rw [e3, e4]; simp
      · rw [if_neg e2, if_neg e, if_neg (by simp; omega)]
theorem repK_ok {β : Type} {z : List AV} {sz off : Nat} {k : Tr AV → R β} {r : β} (hz : z.length = sz) : ∀ {n : Nat} {t : Tr AV}, repK z sz n off t k = .ok r →
    ∃ t', (∀ j, t'.get j = if off ≤ j ∧ j < off + n * sz then z[(j - off) % sz]? else t.get j) ∧ k t' = .ok r
  | 0, t, h => ⟨t, fun j => by rw [if_neg (by omega)], h⟩
  | n + 1, t, h => by
    unfold repK at h
    rw [natR_succ] at h
    obtain ⟨t1, h1, h2⟩ := writeK_ok h
    obtain ⟨t', h3, h4⟩ := repK_ok hz (n := n) h2
    refine ⟨t', fun j => ?_, h4⟩
    rw [h3 j, h1 j, hz]
    have e0 : off.add (n.mul sz) = off + n * sz := rfl
    rw [e0, Nat.add_mul, Nat.one_mul]
    by_cases e : off ≤ j ∧ j < off + n * sz
    · rw [if_pos e, if_pos (by omega)]
    · rw [if_neg e]
      by_cases e2 : off + n * sz ≤ j ∧ j < off + n * sz + sz
      · rw [if_pos e2, if_pos (by omega)]
        congr 1
        obtain ⟨d, hd⟩ : ∃ d, j = off + n * sz + d := ⟨j - (off + n * sz), by omega⟩
        subst hd
        have e3 : off + n * sz + d - off = d + n * sz := by omega
        rw [e3, Nat.add_mul_mod_self_right, Nat.mod_eq_of_lt (by omega)]
        omega
      · rw [if_neg e2, if_neg (by omega)]
theorem mapK_ok {α γ β : Type} {f : α → (γ → R β) → R β} {S : α → γ → Prop} (hf : ∀ a k r, f a k = .ok r → ∃ b, S a b ∧ k b = .ok r) : ∀ {l : List α} {k : List γ → R β} {r : β}, mapK f l k = .ok r →
    ∃ l', F2 S l l' ∧ k l' = .ok r
  | [], k, r, h => ⟨[], .nil, h⟩
  | a :: l, k, r, h => by
    obtain ⟨b, h1, h2⟩ := hf a _ r h
    obtain ⟨l', h3, h4⟩ := mapK_ok hf (l := l) (k := fun l' => k (b :: l')) h2
    exact ⟨b :: l', .cons h1 h3, h4⟩
theorem appK_eq {α β : Type} : ∀ (l m : List α) (k : List α → R β), appK l m k = k (l ++ m)
  | [], _, _ => rfl
  | a :: l, m, k => appK_eq l m (fun l' => k (a :: l'))
theorem lenK_eq {α β : Type} : ∀ (l : List α) (k : Nat → R β), lenK l k = k l.length
  | [], _ => rfl
  | _ :: l, k => lenK_eq l (fun n => k (Nat.succ n))
theorem nthK_ok {α β : Type} {k : α → R β} {e : List Nat} {r : β} : ∀ {l : List α} {n : Nat}, nthK l n k (.er e) = .ok r → ∃ a, l[n]? = some a ∧ k a = .ok r
  | [], _, h => by cases h
  | a :: l, 0, h => ⟨a, rfl, h⟩
  | a :: l, n + 1, h => by
    have h' : nthK l n k (.er e) = .ok r := h
    obtain ⟨b, h1, h2⟩ := nthK_ok h'
    exact ⟨b, by simpa using h1, h2⟩
theorem takeK_ok {α β : Type} {e : List Nat} {r : β} : ∀ {n : Nat} {l : List α} {k : List α → R β}, takeK n l k (.er e) = .ok r → n ≤ l.length ∧ k (l.take n) = .ok r
  | 0, l, k, h => ⟨Nat.zero_le _, by have h' : k [] = .ok r := h; simpa using h'⟩
  | n + 1, [], k, h => by cases h
  | n + 1, a :: l, k, h => by
    have h' : takeK n l (fun r => k (a :: r)) (.er e) = .ok r := h
    obtain ⟨h1, h2⟩ := takeK_ok h'
    exact ⟨by simp; omega, by simpa using h2⟩
theorem dropK_ok {α β : Type} {k : List α → R β} {e : List Nat} {r : β} : ∀ {n : Nat} {l : List α}, dropK n l k (.er e) = .ok r → n ≤ l.length ∧ k (l.drop n) = .ok r
  | 0, l, h => ⟨Nat.zero_le _, by have h' : k l = .ok r := h; simpa using h'⟩
  | n + 1, [], h => by cases h
  | n + 1, a :: l, h => by
    have h' : dropK n l k (.er e) = .ok r := h
    obtain ⟨h1, h2⟩ := dropK_ok h'
    exact ⟨by simp; omega, by simpa using h2⟩
theorem forceV_eq {β : Type} (v : Value) (k : Value → β) : forceV v k = k v := by
  cases v <;> try rfl
  case int j n => exact forceI_eq n fun n' => k (.int j n')
  case bool b => cases b <;> rfl
theorem allCell_spec : ∀ {l : List AV}, allCell l = true → ∀ a ∈ l, isCell a = true
  | [], _, _, h => by cases h
  | a :: l, h, x, hx => by
    have h' : boolC false (allCell l) (isCell a) = true := h
    cases e : isCell a with
    | false => rw [e] at h'; cases h'
    | true =>
      rw [e] at h'
      rcases List.mem_cons.1 hx with rfl | hx
      · exact e
      · exact allCell_spec h' x hx
end Go.Proofs.YtclljjfkaljdnaaGreatDoor
