/- Frames, and one operation of a region, in the evaluator and in the machine. No program in sight. -/
import Derived.Test.YtclljjfkaljdnaaGreatDoorE14
import Derived.OrdersIn
import Derived.TacticsIn
import Derived.RangeFuncLeaves
import Derived.RangeFuncNested
import Derived.RangeFuncRecord
namespace Go.Proofs.YtclljjfkaljdnaaGreatDoor
open Go.RowKit

abbrev Fw (ro : Option Nat) : Fence := { Fence.wide with round := ro }

def MarkR (ρ : Ren) (id : Nat) (d : Deferred) : Prop := ∃ b s N, ρ id = some (b, s, N) ∧ d = { target := .collected b, args := #[] }
theorem MarkR.mono {ρ ρ' : Ren} (hx : Ext ρ ρ') {id : Nat} {d : Deferred} (h : MarkR ρ id d) : MarkR ρ' id d := by
  obtain ⟨b, s, N, h1, h2⟩ := h
  exact ⟨b, s, N, hx _ _ h1, h2⟩

/-- The evaluator's frame and the machine's. -/
structure FR (ρ : Ren) (ro : Option Nat) (fr : AFr) (a : Act) : Prop where
  size : a.tmps.size = fr.size
  slot : ∀ (t : Nat) av, fr.slots.get t = some av → ∃ v, a.tmps[t]? = some v ∧ Rl ρ av v
  marks : F2 (MarkR ρ) fr.marks a.defers
  round : (fr.round = none ∧ ro = none) ∨ ∃ l b s N, fr.round = some l ∧ ρ l = some (b, s, N) ∧ ro = some b

theorem FR.mono {ρ ρ' : Ren} {ro : Option Nat} {fr : AFr} {a : Act} (h : FR ρ ro fr a) (hx : Ext ρ ρ') : FR ρ' ro fr a :=
  ⟨h.size, fun t av ha => let ⟨v, x, y⟩ := h.slot t av ha; ⟨v, x, y.mono hx⟩, h.marks.mono fun _ _ hm => hm.mono hx, h.round.imp id fun ⟨l, b, s, N, h1, h2, h3⟩ => ⟨l, b, s, N, h1, hx _ _ h2, h3⟩⟩
theorem FR.ctx {E : Env} {ρ : Ren} {ro : Option Nat} {fr : AFr} {a : Act} (h : FR ρ ro fr a) (hg : Gl E ρ) (o : Op) : Ctx E ρ fr.slots a o :=
  ⟨hg, fun x _ => by cases x <;> first | trivial | exact fun v hv => h.slot _ v hv⟩

/-- A slot is written. -/
structure APut (fr : AFr) (d : Option Tmp) (v : AV) (fr' : AFr) : Prop where
  size : fr'.size = fr.size
  marks : fr'.marks = fr.marks
  round : fr'.round = fr.round
  fn : fr'.fn = fr.fn
  lt : ∀ t, d = some t → t < fr.size
  get : ∀ j, fr'.slots.get j = if d = some j then some v else fr.slots.get j
theorem dstK_ok {β : Type} {fr : AFr} {d : Option Tmp} {v : AV} {k : AFr → R β} {q : β} (h : dstK fr d v k = .ok q) : ∃ fr', APut fr d v fr' ∧ k fr' = .ok q := by
  unfold dstK at h
  cases d with
  | none => exact ⟨fr, ⟨rfl, rfl, rfl, rfl, fun t e => (by cases e), fun j => by simp⟩, h⟩
  | some t =>
    obtain ⟨s, n, m, r, f⟩ := fr
    dsimp only at h
    replace h := boolC_er h; obtain ⟨h1, h⟩ := h
    replace h := setK_ok h; obtain ⟨s', h2, h⟩ := h
    refine ⟨⟨s', n, m, r, f⟩, ⟨rfl, rfl, rfl, rfl, fun t' e => ?_, fun j => ?_⟩, h⟩
    · cases e; rw [Nat.blt_eq] at h1; exact h1
    · show s'.get j = _
      rw [h2]
      by_cases e : j = t
      · subst e; simp
      · rw [if_neg e, if_neg (fun h => e (Option.some.inj h).symm)]
theorem put_defers (a : Act) (x : Option Tmp) (v : Value) : (a.put x v).defers = a.defers := by cases x <;> rfl
theorem put_size (a : Act) (x : Option Tmp) (v : Value) : (a.put x v).tmps.size = a.tmps.size := by cases x <;> simp [Act.put]
theorem put_get (a : Act) (x : Option Tmp) (v : Value) (t : Tmp) : (a.put x v).tmps[t]? = if x = some t ∧ t < a.tmps.size then some v else a.tmps[t]? := by
  cases x with
  | none => simp [Act.put]
  | some d =>
    simp only [Act.put, Array.getElem?_setIfInBounds]
    by_cases e : d = t
    · subst e
      by_cases h : d < a.tmps.size
      · simp [h]
      · simp [h]
    · rw [if_neg e, if_neg (by simp [e])]
theorem FR.put {ρ : Ren} {ro : Option Nat} {fr fr' : AFr} {a : Act} {d : Option Tmp} {v : AV} {u : Value} (h : FR ρ ro fr a) (hp : APut fr d v fr') (hv : Rl ρ v u) : FR ρ ro fr' (a.put d u) := by
  refine ⟨by rw [put_size, hp.size]; exact h.size, fun t av ha => ?_, by rw [hp.marks, put_defers]; exact h.marks, by rw [hp.round]; exact h.round⟩
  rw [hp.get] at ha
  rw [put_get]
  by_cases e : d = some t
  · rw [if_pos e] at ha
    cases ha
    rw [if_pos ⟨e, by rw [h.size]; exact hp.lt t e⟩]
    exact ⟨u, rfl, hv⟩
  · rw [if_neg e] at ha
    rw [if_neg (fun h => e h.1)]
    exact h.slot t av ha

/-- Is an operation to be done, in the evaluator? -/
def isYes (v : AV) (b : Bool) : Bool :=
  match v with
  | .lit (.bool c) => c == b
  | _ => false
def AWant (s : Tr AV) (ops : List Oper) (g : Option (Nat × Bool)) (b : Bool) : Prop :=
  match g with
  | none => b = true
  | some (j, wb) => ∃ o t v, ops[j]? = some o ∧ o.dst = some t ∧ s.get t = some v ∧ b = isYes v wb

theorem wantedK_ok {β : Type} {fr : AFr} {ops : List Oper} {g : Option (Nat × Bool)} {yes no : Unit → R β} {q : β} (h : wantedK fr ops g yes no = .ok q) :
    (AWant fr.slots ops g true ∧ yes () = .ok q) ∨ (AWant fr.slots ops g false ∧ no () = .ok q) := by
  unfold wantedK at h
  cases g with
  | none => exact .inl ⟨rfl, h⟩
  | some jb =>
    obtain ⟨j, wb⟩ := jb
    dsimp only at h
    replace h := nthK_ok h; obtain ⟨o, ho, h⟩ := h
    cases hd : o.dst with
    | none => rw [hd] at h; cases h
    | some t =>
      rw [hd] at h
      dsimp only at h
      replace h := getK_ok h; obtain ⟨v, hv, h⟩ := h
      have key : ∀ b, b = isYes v wb → AWant fr.slots ops (some (j, wb)) b := fun b e => ⟨o, t, v, ho, hd, hv, e⟩
      split at h
      · rename_i c
        cases wb <;> cases c
        · exact .inl ⟨key _ rfl, h⟩
        · exact .inr ⟨key _ rfl, h⟩
        · exact .inr ⟨key _ rfl, h⟩
        · exact .inl ⟨key _ rfl, h⟩
      · rename_i hn
        refine .inr ⟨key _ ?_, h⟩
        unfold isYes
        split
        · rename_i c; exact absurd rfl (hn c)
        · rfl
def isYesV (u : Value) (b : Bool) : Bool :=
  match u with
  | .bool c => c == b
  | _ => false
theorem isYes_rel {ρ : Ren} {v : AV} {u : Value} (h : Rl ρ v u) (b : Bool) : isYesV u b = isYes v b := by
  cases h <;> first | rfl | (cases u <;> rfl)
/-- The machine's word on it. -/
theorem AWant.rel {ρ : Ren} {s : Tr AV} {ops : Array Oper} {a : Act} {o : Oper} {b : Bool} (h : AWant s ops.toList o.guard b)
    (hs : ∀ j wb o' t, o.guard = some (j, wb) → ops[j]? = some o' → o'.dst = some t → ∀ v, s.get t = some v → ∃ u, a.tmps[t]? = some u ∧ Rl ρ v u) : Region.wanted o (yielded ops a.tmps) = b := by
  unfold AWant at h
  unfold Region.wanted
  cases hg : o.guard with
  | none => rw [hg] at h; exact h.symm
  | some jb =>
    obtain ⟨j, wb⟩ := jb
    rw [hg] at h
    obtain ⟨o', t, v, h1, h2, h3, h4⟩ := h
    have h1' : ops[j]? = some o' := by simpa using h1
    obtain ⟨u, h5, h6⟩ := hs j wb o' t hg h1' h2 v h3
    have h7 := isYes_rel h6 wb
    rw [h4, ← h7]
    simp only [yielded, h1', Option.bind_some, h2, h5]
    cases u <;> first | rfl | (rename_i c; cases c <;> cases wb <;> rfl)
theorem AWant.inj {s : Tr AV} {ops : List Oper} {g : Option (Nat × Bool)} {b b' : Bool} (h : AWant s ops g b) (h' : AWant s ops g b') : b = b' := by
  unfold AWant at h h'
  cases g with
  | none => exact h.trans h'.symm
  | some jb =>
    obtain ⟨o, t, v, h1, h2, h3, h4⟩ := h
    obtain ⟨o', t', v', h1', h2', h3', h4'⟩ := h'
    rw [h1] at h1'; cases h1'
    rw [h2] at h2'; cases h2'
    rw [h3] at h3'; cases h3'
    exact h4.trans h4'.symm

/-! ### calls and rounds, as the evaluator's deeper self does them -/
def CallOK (P : Program) (E : Env) (w0 : World) (f : FuncId) (args : List AV) (H : AH) (v : AV) (H' : AH) : Prop :=
  ∀ ρ w (args' : Array Value), HR E w0 ρ H w → RlL ρ args args'.toList → (callFunc f args').run P w = .ok (.enter f args') w ∧
    Calls P f args' w fun e w' => ∃ u ρ', e = .returned u ∧ Rl ρ' v u ∧ HR E w0 ρ' H' w' ∧ Later ρ H ρ' H'
def RoundOK (P : Program) (E : Env) (w0 : World) (l : Nat) (args : List AV) (H : AH) (v : AV) (H' : AH) : Prop :=
  ∀ ρ w (args' : Array Value) b s N, HR E w0 ρ H w → ρ l = some (b, s, N) → RlL ρ args args'.toList → ∃ f tmps as bd, (Instr.yield b args').run P w = .ok (.round b f tmps as bd) w ∧
    ∀ n, RoundIn Fence.wide n P b f tmps as bd w fun e w' => ∃ u ρ', e = .returned u ∧ Rl ρ' v u ∧ HR E w0 ρ' H' w' ∧ Later ρ H ρ' H'
structure RcOK (P : Program) (E : Env) (w0 : World) (rc : Go') : Prop where
  call : ∀ f args H v H', rc (.call f args) H = .ok (v, H') → CallOK P E w0 f args H v H'
  round : ∀ l args H v H', rc (.round l args) H = .ok (v, H') → RoundOK P E w0 l args H v H'

section
variable {P : Program} {E : Env} {rc : Go'} {w0 : World}

/-- One operation in the evaluator. -/
def AStep (E : Env) (rc : Go') (s : Tr AV) (o : Oper) (H : AH) (v : AV) (H' : AH) : Prop :=
  opK E s o.op H = .ok (.val v H') ∨ (∃ f args H1, opK E s o.op H = .ok (.call f args H1) ∧ rc (.call f args) H1 = .ok (v, H')) ∨ (∃ l args H1, opK E s o.op H = .ok (.round l args H1) ∧ rc (.round l args) H1 = .ok (v, H'))

theorem operK_ok {β : Type} {fr : AFr} {ops : List Oper} {o : Oper} {H : AH} {k : AFr → AH → R β} {q : β} (h : operK E rc fr ops o H k = .ok q) :
    (AWant fr.slots ops o.guard true ∧ ∃ v H' fr', AStep E rc fr.slots o H v H' ∧ APut fr o.dst v fr' ∧ k fr' H' = .ok q) ∨ (AWant fr.slots ops o.guard false ∧ ∃ fr', APut fr o.dst undefA fr' ∧ k fr' H = .ok q) := by
  unfold operK at h
  rcases wantedK_ok h with ⟨hw, h⟩ | ⟨hw, h⟩
  · refine .inl ⟨hw, ?_⟩
    split at h
    · cases h
    · rename_i r hr
      split at h
      · replace h := dstK_ok h; obtain ⟨fr', hp, h⟩ := h
        exact ⟨_, _, fr', .inl hr, hp, h⟩
      · split at h
        · rename_i p hp
          obtain ⟨v, H''⟩ := p
          replace h := dstK_ok h; obtain ⟨fr', hp', h⟩ := h
          exact ⟨v, H'', fr', .inr (.inl ⟨_, _, _, hr, hp⟩), hp', h⟩
        · cases h
      · split at h
        · rename_i p hp
          obtain ⟨v, H''⟩ := p
          replace h := dstK_ok h; obtain ⟨fr', hp', h⟩ := h
          exact ⟨v, H'', fr', .inr (.inr ⟨_, _, _, hr, hp⟩), hp', h⟩
        · cases h
  · replace h := dstK_ok h; obtain ⟨fr', hp, h⟩ := h
    exact .inr ⟨hw, fr', hp, h⟩

theorem noDefer {s : Tr AV} {o : Oper} {H : AH} {r : ARes} (h : opK E s o.op H = .ok r) : ∀ c, o.op ≠ .defer c := by
  intro c hc
  rw [hc] at h
  cases h

theorem callsIn_any {n : Nat} {ro : Option Nat} {f : FuncId} {args : Array Value} {w : World} {R : Ending → World → Prop} (h : Calls P f args w R) : CallsIn (Fw ro) n P f args w R :=
  (callsIn_wide (n := n)).2 h
theorem roundIn_any {n : Nat} {ro : Option Nat} {l : Nat} {f : FuncId} {tmps : Array Value} {as bd : Code} {w : World} {R : Ending → World → Prop} (h : RoundIn Fence.wide n P l f tmps as bd w R) : RoundIn (Fw ro) n P l f tmps as bd w R := h

/-- One operation in the machine. -/
theorem astep_sound (EO : EnvOK P E) (RO : RcOK P E w0 rc) {s : Tr AV} {o : Oper} {H H' : AH} {v : AV} (h : AStep E rc s o H v H') {ρ : Ren} {ro : Option Nat} {a : Act} {w : World} {next : Act → World → Prop} {Q : Exit → Act → World → Prop} (n : Nat)
    (hh : HR E w0 ρ H w) (hc : Ctx E ρ s a o.op) (hk : ∀ ρ' u w', Rl ρ' v u → HR E w0 ρ' H' w' → Later ρ H ρ' H' → next (a.put o.dst u) w') : o.wpIn (Fw ro) n P a w next Q := by
  have hdepth : ((Fw ro).depth.isSome = true → 1 ≤ n) := fun h => by cases h
  have fin : ∀ r, opK E s o.op H = .ok r → (Fw ro).round = ro → o.uponIn (Fw ro) n P a next Q ((execOp a.eval o).run P w) → o.wpIn (Fw ro) n P a w next Q := by
    intro r hr _ hu
    refine ⟨fun _ _ => trivial, ?_⟩
    rw [Oper.semAt_eq _ _ _ (noDefer hr)]
    exact hu
  have wr : ∀ r, opK E s o.op H = .ok r → Wr P E s o H r → r = .val v H' → o.wpIn (Fw ro) n P a w next Q := by
    intro r hr hw e
    obtain ⟨av, H2, u, w', ρ', e2, hrun, h1, h2, h3⟩ := hw w0 ρ w a hh hc
    rw [e] at e2; cases e2
    refine fin r hr rfl ?_
    rcases hrun with hrun | ⟨hrun, rfl⟩
    · rw [hrun, Oper.uponIn_value]; exact hk ρ' u w' h1 h2 h3
    · rw [hrun, Oper.uponIn_skip]; exact hk ρ' undef w' h1 h2 h3
  rcases h with h | ⟨f, args, H1, h, hrc⟩ | ⟨l, args, H1, h, hrc⟩
  · have := op_cls EO h
    cases hcls : cls o.op <;> rw [hcls] at this
    · exact wr _ h this.ro.wr rfl
    · exact wr _ h this.wr rfl
    · exact wr _ h this.wr rfl
    · rcases this with this | this
      · exact wr _ h this rfl
      · rcases this with ⟨_, _, e, _⟩ | ⟨_, _, e, _⟩ <;> cases e
  · have := op_cls EO h
    have ca : Ca P E s o H (.call f args H1) := by
      cases hcls : cls o.op <;> rw [hcls] at this
      · obtain ⟨_, e, _⟩ := this; cases e
      · obtain ⟨_, e, _⟩ := this; cases e
      · obtain ⟨_, _, _, e, _⟩ := this; cases e
      · rcases this with this | this
        · obtain ⟨_, _, _, _, _, e, _⟩ := this w0 ρ w a hh hc; cases e
        · exact this
    rcases ca with ⟨_, _, e, hca⟩ | ⟨_, _, e, _⟩
    · cases e
      obtain ⟨args', h1, h2⟩ := hca ρ w a hc
      obtain ⟨h3, h4⟩ := RO.call _ _ _ _ _ hrc ρ w args' hh h1
      refine fin _ h rfl ?_
      rw [h2, h3, Oper.uponIn_enter]
      refine ⟨hdepth, callsIn_any (h4.mono ?_)⟩
      rintro e w' ⟨u, ρ', rfl, h5, h6, h7⟩
      exact hk ρ' u w' h5 h6 h7
    · cases e
  · have := op_cls EO h
    have ca : Ca P E s o H (.round l args H1) := by
      cases hcls : cls o.op <;> rw [hcls] at this
      · obtain ⟨_, e, _⟩ := this; cases e
      · obtain ⟨_, e, _⟩ := this; cases e
      · obtain ⟨_, _, _, e, _⟩ := this; cases e
      · rcases this with this | this
        · obtain ⟨_, _, _, _, _, e, _⟩ := this w0 ρ w a hh hc; cases e
        · exact this
    rcases ca with ⟨_, _, e, _⟩ | ⟨_, _, e, hca⟩
    · cases e
    · cases e
      obtain ⟨args', b, sh, N, hb, h1, h2⟩ := hca ρ w a hc
      obtain ⟨f, tmps, as, bd, h3, h4⟩ := RO.round _ _ _ _ _ hrc ρ w args' b sh N hh hb h1
      refine fin _ h rfl ?_
      rw [h2, h3, Oper.uponIn_round]
      refine ⟨hdepth, roundIn_any ((h4 (n - 1)).mono ?_)⟩
      rintro e w' ⟨u, ρ', rfl, h5, h6, h7⟩
      exact hk ρ' u w' h5 h6 h7

theorem FR.guard {ρ : Ren} {ro : Option Nat} {fr : AFr} {a : Act} (h : FR ρ ro fr a) {ops : Array Oper} {o : Oper} {b : Bool} (hw : AWant fr.slots ops.toList o.guard b) : Region.wanted o (yielded ops a.tmps) = b :=
  hw.rel fun _ _ _ t _ _ _ v hv => h.slot t v hv

/-- A region in the text's order. -/
theorem opsK_sound (EO : EnvOK P E) (RO : RcOK P E w0 rc) {β : Type} {ops : Array Oper} {k : AFr → AH → R β} {q : β} (n : Nat) : ∀ {l : List Oper} {fr : AFr} {H : AH}, opsK E rc ops.toList l k fr H = .ok q →
    ∃ fr' H', k fr' H' = .ok q ∧ fr'.fn = fr.fn ∧ ∀ (ρ : Ren) (ro : Option Nat) (a : Act) (w : World) (Q : Exit → Act → World → Prop), HR E w0 ρ H w → FR ρ ro fr a →
      (∀ ρ' a' w', FR ρ' ro fr' a' → HR E w0 ρ' H' w' → Later ρ H ρ' H' → Q .normal a' w') → wpListIn (Fw ro) n P ops Q l a w
  | [], fr, H, h => ⟨fr, H, h, rfl, fun ρ ro a w Q hh hf hk => hk ρ a w hf hh (Later.refl _ _)⟩
  | o :: l, fr, H, h => by
    have h' : operK E rc fr ops.toList o H (opsK E rc ops.toList l k) = .ok q := h
    rcases operK_ok h' with ⟨hw, v, H1, fr1, hs, hp, h1⟩ | ⟨hw, fr1, hp, h1⟩
    · obtain ⟨fr', H', h2, h3, h4⟩ := opsK_sound EO RO n h1
      refine ⟨fr', H', h2, h3.trans hp.fn, fun ρ ro a w Q hh hf hk => ?_⟩
      unfold wpListIn
      rw [if_pos (hf.guard hw)]
      refine astep_sound EO RO hs n hh (hf.ctx hh.gl _) fun ρ' u w' g1 g2 g3 => ?_
      exact h4 ρ' ro _ w' Q g2 ((hf.mono g3.ext).put hp g1) fun ρ2 a2 w2 f1 f2 f3 => hk ρ2 a2 w2 f1 f2 (g3.trans f3)
    · obtain ⟨fr', H', h2, h3, h4⟩ := opsK_sound EO RO n h1
      refine ⟨fr', H', h2, h3.trans hp.fn, fun ρ ro a w Q hh hf hk => ?_⟩
      unfold wpListIn
      rw [if_neg (by rw [hf.guard hw]; simp)]
      exact ⟨fun _ _ => trivial, h4 ρ ro _ w Q hh (hf.put hp (.lit _)) hk⟩
end
end Go.Proofs.YtclljjfkaljdnaaGreatDoor
