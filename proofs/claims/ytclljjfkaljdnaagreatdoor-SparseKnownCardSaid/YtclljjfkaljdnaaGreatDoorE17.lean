/- Regions that draw their order: what holds in the midst, and the rule. No program in sight. -/
import Derived.Test.YtclljjfkaljdnaaGreatDoorE16
namespace Go.Proofs.YtclljjfkaljdnaaGreatDoor
open Go.RowKit

section
variable {P : Program} {E : Env} {rc : Go'} {w0 : World} {ops : Array Oper} {pl : List PStep} {S : Nat → AFr × AH}

/-- What holds in the midst: k steps of the plan are reached; of them, all writers are done; nothing else is. -/
structure DI (E : Env) (w0 : World) (ops : Array Oper) (pl : List PStep) (S : Nat → AFr × AH) (ρ0 : Ren) (a : Act) (listed : Array Bool) (k : Nat) (ρ : Ren) (a' : Act) (w' : World) : Prop where
  size : listed.size = ops.size
  closed : Closed ops (fun i => listed.getD i false)
  kle : k ≤ pl.length
  wrs : ∀ l p, l < k → pl[l]? = some p → p.isWr = true → listed.getD p.i false = true
  kwr : k = pl.length ∨ ∃ p, pl[k]? = some p ∧ p.isWr = true ∧ listed.getD p.i false = false
  sub : ∀ (l : Nat) (p : PStep), pl[l]? = some p → listed.getD p.i false = true → l < k
  hr : HR E w0 ρ (S k).2 w'
  wf : ∀ j, j ≤ k → ∀ id, (S j).2.next ≤ id → (S j).2.t.get id = none
  later : Later ρ0 (S 0).2 ρ (S k).2
  un : ∀ l p, l < k → pl[l]? = some p → listed.getD p.i false = false → ∀ id, (S l).2.next ≤ id → id < (S (l + 1)).2.next → ρ id = none ∧ (S k).2.t.get id = (S (l + 1)).2.t.get id
  mono : ∀ i j, i ≤ j → j ≤ k → (S i).2.next ≤ (S j).2.next
  tsize : a'.tmps.size = a.tmps.size
  defers : a'.defers = a.defers
  done : ∀ (l : Nat) (p : PStep) (o : Oper) (t : Tmp), pl[l]? = some p → ops[p.i]? = some o → o.dst = some t → listed.getD p.i false = true → ∀ av, (S (l + 1)).1.slots.get t = some av → ∃ v, a'.tmps[t]? = some v ∧ Rl ρ av v
  still : ∀ t : Tmp, (∀ (i : Nat) (o : Oper), ops[i]? = some o → o.dst = some t → listed.getD i false = false) → ∀ av, (S 0).1.slots.get t = some av → ∃ v, a'.tmps[t]? = some v ∧ Rl ρ av v

theorem looks_operand {o : Oper} {t : Tmp} (h : Operand.tmp t ∈ o.op.operands.toList) : t ∈ o.looksAt ops :=
  List.mem_append_left _ (List.mem_filterMap.2 ⟨.tmp t, h, rfl⟩)
theorem looks_guard {o o' : Oper} {j : Nat} {b : Bool} {t : Tmp} (h : o.guard = some (j, b)) (h1 : ops[j]? = some o') (h2 : o'.dst = some t) : t ∈ o.looksAt ops :=
  List.mem_append_right _ (by simp [h, h1, h2])

section
variable {ρ0 ρ : Ren} {a a' : Act} {w' : World} {listed : Array Bool} {k : Nat}

/-- A slot that an operation looks at, as the plan had it. -/
theorem DI.sees (PO : PlanOK ops pl) (hS : Steps' E rc ops pl S) (h : DI E w0 ops pl S ρ0 a listed k ρ a' w') {i : Nat} {o : Oper} (ho : ops[i]? = some o) (hr : ∀ e ∈ o.after, Region.binds .any e = true → listed.getD e.on false = true) {t : Tmp} {jj : Nat} (hjj : jj ≤ pl.length)
    (hw : ∀ (lm : Nat) (pm : PStep) (om : Oper), pl[lm]? = some pm → ops[pm.i]? = some om → om.dst = some t → (Anc ops i pm.i ∧ lm < jj) ∨ (listed.getD pm.i false = false ∧ jj ≤ lm)) :
    ∀ v, (S jj).1.slots.get t = some v → ∃ u, a'.tmps[t]? = some u ∧ Rl ρ v u := by
  intro v hv
  by_cases hex : ∃ (m : Nat) (om : Oper), ops[m]? = some om ∧ om.dst = some t
  · obtain ⟨m, om, hm, hd⟩ := hex
    obtain ⟨lm, pm, hpm, hpi⟩ := PO.surj m (Array.getElem?_eq_some_iff.1 hm).1
    obtain ⟨w1, w2⟩ := PO.written hS hpm hpi hm hd
    rcases hw lm pm om hpm (by rw [hpi]; exact hm) hd with ⟨g1, g2⟩ | ⟨g1, g2⟩
    · have hl := h.closed.ready g1 ho hr
      rw [w1 jj g2 hjj] at hv
      exact h.done lm pm om t hpm (by rw [hpi]; exact hm) hd hl v hv
    · rw [w2 jj g2] at hv
      refine h.still t (fun i' o' h1 h2 => ?_) v hv
      have := PO.dst1 _ _ _ _ _ h1 hm h2 hd
      rw [this, ← hpi]; exact g1
  · rw [unwritten hS (fun m om h1 h2 => hex ⟨m, om, h1, h2⟩) jj hjj] at hv
    exact h.still t (fun i' o' h1 h2 => absurd ⟨i', o', h1, h2⟩ hex) v hv

/-- At its own place in the plan. -/
theorem DI.own (PO : PlanOK ops pl) (h : DI E w0 ops pl S ρ0 a listed k ρ a' w') {l : Nat} {p : PStep} {o : Oper} (hp : pl[l]? = some p) (ho : ops[p.i]? = some o) (hun : listed.getD p.i false = false) {t : Tmp} (ht : t ∈ o.looksAt ops) :
    ∀ (lm : Nat) (pm : PStep) (om : Oper), pl[lm]? = some pm → ops[pm.i]? = some om → om.dst = some t → (Anc ops p.i pm.i ∧ lm < l) ∨ (listed.getD pm.i false = false ∧ l ≤ lm) := by
  intro lm pm om hpm hom hd
  rcases PO.look p.i pm.i o om t ho hom hd ht with e | ha | ha
  · have := PO.pos hpm hp e
    exact .inr ⟨by rw [e]; exact hun, by omega⟩
  · obtain ⟨j', p', h1, h2, h3⟩ := PO.anc_pos ha hp rfl
    have := PO.pos h2 hpm h3
    exact .inl ⟨ha, by omega⟩
  · obtain ⟨j', p', h1, h2, h3⟩ := PO.anc_pos ha hpm rfl
    have := PO.pos h2 hp h3
    refine .inr ⟨?_, by omega⟩
    cases hl : listed.getD pm.i false with
    | false => rfl
    | true =>
      have := h.closed.anc ha hl
      rw [hun] at this; cases this

/-- What is written into the frame. -/
theorem DI.slots (PO : PlanOK ops pl) (hS : Steps' E rc ops pl S) (h : DI E w0 ops pl S ρ0 a listed k ρ a' w') {l : Nat} {p : PStep} {o : Oper} (hp : pl[l]? = some p) (ho : ops[p.i]? = some o) (hsz : a.tmps.size = (S 0).1.size) {av : AV} (hput : APut (S l).1 o.dst av (S (l + 1)).1) {ρ2 : Ren} (hx : Ext ρ ρ2) {u : Value} (hu : Rl ρ2 av u) :
    (∀ (l' : Nat) (p' : PStep) (o' : Oper) (t : Tmp), pl[l']? = some p' → ops[p'.i]? = some o' → o'.dst = some t → (listed.setIfInBounds p.i true).getD p'.i false = true → ∀ av, (S (l' + 1)).1.slots.get t = some av → ∃ v, (a'.put o.dst u).tmps[t]? = some v ∧ Rl ρ2 av v) ∧
    (∀ t : Tmp, (∀ (i : Nat) (o : Oper), ops[i]? = some o → o.dst = some t → (listed.setIfInBounds p.i true).getD i false = false) → ∀ av, (S 0).1.slots.get t = some av → ∃ v, (a'.put o.dst u).tmps[t]? = some v ∧ Rl ρ2 av v) := by
  have hi : p.i < listed.size := by rw [h.size]; exact (Array.getElem?_eq_some_iff.1 ho).1
  have hget : ∀ j, (listed.setIfInBounds p.i true).getD j false = if j = p.i then true else listed.getD j false := by
    intro j
    by_cases e : j = p.i
    · subst e; simp [hi]
    · rw [if_neg e]
      simp only [Array.getD_eq_getD_getElem?, Array.getElem?_setIfInBounds]
      rw [if_neg (fun h => e h.symm)]
  have hll : l < pl.length := (List.getElem?_eq_some_iff.1 hp).1
  constructor
  · intro l' p' o' t hp' ho' hd hl av' hav
    rw [put_get]
    by_cases e : p'.i = p.i
    · have := PO.pos hp' hp e
      subst this
      rw [hp] at hp'; cases hp'
      rw [ho] at ho'; cases ho'
      rw [hput.get, if_pos hd] at hav
      cases hav
      refine ⟨u, by rw [if_pos ⟨hd, ?_⟩], hu⟩
      rw [h.tsize, hsz, ← (same_frame hS l' (by omega)).1]
      exact hput.lt t hd
    · rw [hget, if_neg e] at hl
      rw [if_neg (fun hh => e (PO.dst1 _ _ _ _ _ ho' ho hd hh.1))]
      obtain ⟨v, h1, h2⟩ := h.done l' p' o' t hp' ho' hd hl av' hav
      exact ⟨v, h1, h2.mono hx⟩
  · intro t hall av' hav
    rw [put_get]
    rw [if_neg (fun hh => by
      have := hall p.i o ho hh.1
      rw [hget, if_pos rfl] at this; cases this)]
    obtain ⟨v, h1, h2⟩ := h.still t (fun i o' h1 h2 => by
      have := hall i o' h1 h2
      rw [hget] at this
      split at this
      · cases this
      · exact this) av' hav
    exact ⟨v, h1, h2.mono hx⟩

theorem closed_set (h : Closed ops (fun i => listed.getD i false)) {i : Nat} {o : Oper} (hi : i < listed.size) (ho : ops[i]? = some o) (hr : ∀ e ∈ o.after, Region.binds .any e = true → listed.getD e.on false = true) :
    Closed ops (fun j => (listed.setIfInBounds i true).getD j false) ∧ ∀ j, (listed.setIfInBounds i true).getD j false = if j = i then true else listed.getD j false := by
  have hget : ∀ j, (listed.setIfInBounds i true).getD j false = if j = i then true else listed.getD j false := by
    intro j
    by_cases e : j = i
    · subst e; simp [hi]
    · rw [if_neg e]
      simp only [Array.getD_eq_getD_getElem?, Array.getElem?_setIfInBounds]
      rw [if_neg (fun h => e h.symm)]
  refine ⟨fun j o' ho' hj e he hb => ?_, hget⟩
  simp only [hget] at hj ⊢
  split
  · rfl
  · by_cases ej : j = i
    · subst ej
      rw [ho] at ho'; cases ho'
      exact hr e he hb
    · rw [if_neg ej] at hj
      exact h j o' ho' hj e he hb

theorem last_wr (pl : List PStep) (l : Nat) : ∀ k, l ≤ k → NoWr pl l k ∨ ∃ m p, l ≤ m ∧ m < k ∧ pl[m]? = some p ∧ p.isWr = true ∧ NoWr pl (m + 1) k := by
  intro k
  induction k with
  | zero => intro h; exact .inl fun l' p a b => by omega
  | succ k ih =>
    intro h
    by_cases e : l = k + 1
    · exact .inl fun l' p a b => by omega
    · have ext : ∀ m, NoWr pl m k → (∀ p, pl[k]? = some p → p.isWr = false) → NoWr pl m (k + 1) := by
        intro m h1 h2 l' p a b c
        by_cases e : l' = k
        · subst e; exact h2 p c
        · exact h1 l' p a (by omega) c
      cases hp : pl[k]? with
      | none =>
        have h2 : ∀ p, pl[k]? = some p → p.isWr = false := fun p hh => by rw [hp] at hh; cases hh
        rcases ih (by omega) with h1 | ⟨m, p, a, b, c, d, f⟩
        · exact .inl (ext l h1 h2)
        · exact .inr ⟨m, p, a, by omega, c, d, ext _ f h2⟩
      | some p =>
        cases hw : p.isWr with
        | true => exact .inr ⟨k, p, by omega, by omega, hp, hw, fun l' q a b => by omega⟩
        | false =>
          have h2 : ∀ q, pl[k]? = some q → q.isWr = false := fun q hh => by rw [hp] at hh; cases hh; exact hw
          rcases ih (by omega) with h1 | ⟨m, p, a, b, c, d, f⟩
          · exact .inl (ext l h1 h2)
          · exact .inr ⟨m, p, a, by omega, c, d, ext _ f h2⟩

theorem Grew.keeps {H H' : AH} (h : Grew H H') (hw : ∀ id, H.next ≤ id → H.t.get id = none) : Keeps H H' := by
  intro id o ho
  have : id < H.next := by
    rcases Nat.lt_or_ge id H.next with h1 | h1
    · exact h1
    · rw [hw id h1] at ho; cases ho
  rw [h.get id this]; exact ho

theorem wpIn_value {o : Oper} {ro : Option Nat} {n : Nat} {a : Act} {w w'' : World} {v : Value} {next : Act → World → Prop} {Q : Exit → Act → World → Prop} (hd : ∀ c, o.op ≠ .defer c) (hrun : (execOp a.eval o).run P w = .ok (.value v) w'') (hn : next (a.put o.dst v) w'') :
    o.wpIn (Fw ro) n P a w next Q := by
  refine ⟨fun _ _ => trivial, ?_⟩
  rw [Oper.semAt_eq _ _ _ hd, hrun, Oper.uponIn_value]
  exact hn

theorem bool_of_getD {i : Nat} (h1 : listed.getD i true = false) : listed.getD i false = false := by
  simp only [Array.getD_eq_getD_getElem?] at h1 ⊢
  cases h : listed[i]? with
  | none => rw [h] at h1; cases h1
  | some b => rw [h] at h1; exact h1

/-- One step of the machine's. -/
theorem DI.step (EO : EnvOK P E) (RO : RcOK P E w0 rc) (PO : PlanOK ops pl) (hS : Steps' E rc ops pl S) (hsz : a.tmps.size = (S 0).1.size) (h : DI E w0 ops pl S ρ0 a listed k ρ a' w') {i : Nat} (hi : i ∈ Region.ready .any ops listed) (n : Nat) (ro : Option Nat) (Q : Exit → Act → World → Prop) (K : Act → World → Prop)
    (hK : ∀ k2 ρ2 a2 w2, DI E w0 ops pl S ρ0 a (listed.setIfInBounds i true) k2 ρ2 a2 w2 → K a2 w2) : wpOpIn (Fw ro) n P ops Q i K a' w' := by
  obtain ⟨hl0, o, ho, hr⟩ := mem_ready.1 hi
  have hin : i < ops.size := (Array.getElem?_eq_some_iff.1 ho).1
  have hun : listed.getD i false = false := bool_of_getD (by simpa using hl0)
  obtain ⟨l, p, hp, hpi⟩ := PO.surj i hin
  subst hpi
  have hll : l < pl.length := (List.getElem?_eq_some_iff.1 hp).1
  obtain ⟨hcl2, hget⟩ := closed_set h.closed (by rw [h.size]; exact hin) ho hr
  have PCp := PO.pc l p hp
  have hlk : l ≤ k := by
    rcases Nat.lt_or_ge k l with hlt | hge
    · exfalso
      rcases h.kwr with e | ⟨pk, hpk, hwk, hlk⟩
      · omega
      · have := PCp.wrs pk (mem_take.2 ⟨k, hlt, hpk⟩) hwk
        have := h.closed.ready this ho hr
        rw [hlk] at this; cases this
    · exact hge
  obtain ⟨o', ho', hst, hag⟩ := hS l p hp
  rw [ho] at ho'; cases ho'
  have hctx : ∀ {jj : Nat}, jj ≤ pl.length → (∀ t ∈ o.looksAt ops, ∀ (lm : Nat) (pm : PStep) (om : Oper), pl[lm]? = some pm → ops[pm.i]? = some om → om.dst = some t → (Anc ops p.i pm.i ∧ lm < jj) ∨ (listed.getD pm.i false = false ∧ jj ≤ lm)) →
      Ctx E ρ (S jj).1.slots a' o.op ∧ ∀ b, AWant (S jj).1.slots ops.toList o.guard b → Region.wanted o (yielded ops a'.tmps) = b := by
    intro jj hjj hw
    refine ⟨⟨h.hr.gl, fun x hx => ?_⟩, fun b hb => hb.rel (ρ := ρ) fun j wb o' t hg h1 h2 v hv => ?_⟩
    · cases x with
      | tmp t => exact fun v hv => h.sees PO hS ho hr hjj (hw t (looks_operand hx)) v hv
      | _ => trivial
    · exact h.sees PO hS ho hr hjj (hw t (looks_guard hg h1 h2)) v hv
  obtain ⟨hc, hw⟩ := hctx (jj := l) (by omega) (fun t ht => h.own PO hp ho hun ht)
  -- the same k, a renaming grown
  have stay : l < k → ∀ (ρ2 : Ren) (w2 : World) (av : AV) (u : Value), Ext ρ ρ2 → HR E w0 ρ2 (S k).2 w2 → (∀ id, ρ2 id ≠ ρ id → (S l).2.next ≤ id ∧ id < (S (l + 1)).2.next) → APut (S l).1 o.dst av (S (l + 1)).1 → Rl ρ2 av u → K (a'.put o.dst u) w2 := by
    intro hlt ρ2 w2 av u hx hr2 hd hput hu
    obtain ⟨d1, d2⟩ := h.slots PO hS hp ho hsz hput hx hu
    refine hK k ρ2 _ w2 ⟨by simp [h.size], hcl2, h.kle, ?_, ?_, ?_, hr2, h.wf, ?_, ?_, h.mono, by rw [put_size, h.tsize], by rw [put_defers, h.defers], d1, d2⟩
    · intro l' p' a1 a2 a3
      rw [hget]; split
      · rfl
      · exact h.wrs l' p' a1 a2 a3
    · rcases h.kwr with e | ⟨pk, h1, h2, h3⟩
      · exact .inl e
      · refine .inr ⟨pk, h1, h2, ?_⟩
        rw [hget, if_neg (fun e => by have := PO.pos h1 hp e; omega)]; exact h3
    · intro l' p' a1 a2
      rw [hget] at a2
      split at a2
      · rename_i e
        have := PO.pos a1 hp e; omega
      · exact h.sub l' p' a1 a2
    · refine ⟨fun id q hq => hx _ _ (h.later.ext id q hq), fun id hid hn => ?_, h.later.next⟩
      obtain ⟨g1, g2⟩ := h.later.keep id hid hn
      refine ⟨?_, g2⟩
      by_cases e : ρ2 id = ρ id
      · rw [e]; exact g1
      · have := (hd id e).1
        have := h.mono 0 l (Nat.zero_le _) hlk
        omega
    · intro l' p' a1 a2 a3 id b1 b2
      rw [hget] at a3
      split at a3
      · cases a3
      · rename_i e
        obtain ⟨g1, g2⟩ := h.un l' p' a1 a2 a3 id b1 b2
        refine ⟨?_, g2⟩
        by_cases e2 : ρ2 id = ρ id
        · rw [e2]; exact g1
        · exfalso
          obtain ⟨c1, c2⟩ := hd id e2
          have hne : l' ≠ l := by
            rintro rfl
            rw [a2] at hp; cases hp; exact e rfl
          rcases Nat.lt_or_ge l' l with hlt' | hge'
          · have := h.mono (l' + 1) l hlt' hlk; omega
          · have := h.mono (l + 1) l' (by omega) (by omega); omega
  unfold wpOpIn
  simp only [ho]
  by_cases hlk2 : l = k
  · -- the writer
    subst hlk2
    have hpw : p.isWr = true := by
      rcases h.kwr with e | ⟨pk, h1, h2, _⟩
      · omega
      · rw [hp] at h1; cases h1; exact h2
    have next : ∀ (ρ2 : Ren) (w2 : World) (av : AV) (u : Value), HR E w0 ρ2 (S (l + 1)).2 w2 → Later ρ (S l).2 ρ2 (S (l + 1)).2 → APut (S l).1 o.dst av (S (l + 1)).1 → Rl ρ2 av u → K (a'.put o.dst u) w2 := by
      intro ρ2 w2 av u hr2 hlt hput hu
      obtain ⟨d1, d2⟩ := h.slots PO hS hp ho hsz hput hlt.ext hu
      obtain ⟨k2, e1, e2, e3, e4⟩ := next_wr pl (pl.length - (l + 1)) (l + 1) (by omega)
      have btw : ∀ j, l + 1 ≤ j → j ≤ k2 → Grew (S (l + 1)).2 (S j).2 ∧ ∀ ρ w, HR E w0 ρ (S (l + 1)).2 w → HR E w0 ρ (S j).2 w :=
        fun j g1 g2 => between EO PO hS j g1 (by omega) fun l' p a1 a2 => e3 l' p a1 (by omega)
      have hgr := (btw k2 e1 (Nat.le_refl _)).1
      have hmono : ∀ i j, i ≤ j → j ≤ k2 → (S i).2.next ≤ (S j).2.next := by
        intro i j hij hj
        rcases Nat.lt_or_ge l i with g1 | g1
        · have gi := (btw i g1 (by omega)).1
          exact (between (w0 := w0) EO PO hS (j := i) j hij (by omega) fun l' p a1 a2 => e3 l' p (by omega) (by omega)).1.next
        · rcases Nat.lt_or_ge l j with g2 | g2
          · exact Nat.le_trans (h.mono i l g1 (Nat.le_refl _)) (Nat.le_trans hlt.next (btw j g2 hj).1.next)
          · exact h.mono i j hij g2
      refine hK k2 ρ2 _ w2 ⟨by simp [h.size], hcl2, e2, ?_, ?_, ?_, (btw k2 e1 (Nat.le_refl _)).2 _ _ hr2, ?_, ?_, ?_, hmono, by rw [put_size, h.tsize], by rw [put_defers, h.defers], d1, d2⟩
      · intro l' p' a1 a2 a3
        rw [hget]; split
        · rfl
        · rcases Nat.lt_trichotomy l' l with g | g | g
          · exact h.wrs l' p' g a2 a3
          · subst g; rw [hp] at a2; cases a2; rename_i e; exact absurd rfl e
          · have := e3 l' p' (by omega) a1 a2; rw [a3] at this; cases this
      · rcases e4 with e4 | ⟨pk, h1, h2⟩
        · exact .inl e4
        · refine .inr ⟨pk, h1, h2, ?_⟩
          rw [hget, if_neg (fun e => by have := PO.pos h1 hp e; omega)]
          cases hh : listed.getD pk.i false with
          | false => rfl
          | true => have := h.sub k2 pk h1 hh; omega
      · intro l' p' a1 a2
        rw [hget] at a2
        split at a2
        · rename_i e
          have := PO.pos a1 hp e; omega
        · have := h.sub l' p' a1 a2; omega
      · intro j hj id hid
        rcases Nat.lt_or_ge l j with g1 | g1
        · exact ((btw j g1 hj).2 _ _ hr2).fr id hid
        · exact h.wf j g1 id hid
      · refine (h.later.trans hlt).trans ⟨fun _ _ hh => hh, fun id hid hn => ⟨hn, hgr.get id hid⟩, hgr.next⟩
      · intro l' p' a1 a2 a3 id b1 b2
        rw [hget] at a3
        split at a3
        · cases a3
        · rename_i e
          have hne : l' ≠ l := by
            rintro rfl
            rw [a2] at hp; cases hp; exact e rfl
          rcases Nat.lt_or_ge l' l with g | g
          · obtain ⟨g1, g2⟩ := h.un l' p' g a2 a3 id b1 b2
            have hid : id < (S l).2.next := Nat.lt_of_lt_of_le b2 (h.mono (l' + 1) l g (Nat.le_refl _))
            obtain ⟨g3, g4⟩ := hlt.keep id hid g1
            exact ⟨g3, (hgr.get id (Nat.lt_of_lt_of_le hid hlt.next)).trans (g4.trans g2)⟩
          · refine ⟨?_, ?_⟩
            · cases hq : ρ2 id with
              | none => rfl
              | some q =>
                have := hr2.lt id q hq
                have := (btw l' (by omega) (by omega)).1.next
                omega
            · exact (between (w0 := w0) EO PO hS (j := l' + 1) k2 (by omega) e2 fun l2 p2 c1 c2 => e3 l2 p2 (by omega) c2).1.get id b2
    rcases hst with ⟨hwt, v, hs, hput⟩ | ⟨hwt, hput, e⟩
    · rw [if_pos (hw _ hwt)]
      exact astep_sound EO RO hs n h.hr hc fun ρ2 u w2 g1 g2 g3 => next ρ2 w2 v u g2 g3 hput g1
    · rw [if_neg (by rw [hw _ hwt]; simp)]
      refine ⟨fun _ _ => trivial, next ρ w' undefA undef ?_ ?_ hput (.lit _)⟩
      · rw [e]; exact h.hr
      · rw [e]; exact Later.refl _ _
  · -- another
    have hlt : l < k := by omega
    have hnw : p.isWr = false := by
      cases hh : p.isWr with
      | false => rfl
      | true => have := h.wrs l p hlt hp hh; rw [hun] at this; cases this
    have hcls : cls o.op ≠ .wr := by
      cases hpp : p with
      | op i => exact PCp.cl i hpp o (by rw [hpp] at ho; exact ho)
      | wr i re => rw [hpp] at hnw; cases hnw
    rcases hst with ⟨hwt, v, hs, hput⟩ | ⟨hwt, hput, e⟩
    · rw [if_pos (hw _ hwt)]
      have hs1 : opK E (S l).1.slots o.op (S l).2 = .ok (.val v (S (l + 1)).2) := by
        rcases hs with hs | ⟨f, args, H1, hs, _⟩ | ⟨f, args, H1, hs, _⟩
        · exact hs
        · have := op_cls EO hs
          cases hcl : cls o.op <;> rw [hcl] at this
          · obtain ⟨_, e, _⟩ := this; cases e
          · obtain ⟨_, e, _⟩ := this; cases e
          · obtain ⟨_, _, _, e, _⟩ := this; cases e
          · exact absurd hcl hcls
        · have := op_cls EO hs
          cases hcl : cls o.op <;> rw [hcl] at this
          · obtain ⟨_, e, _⟩ := this; cases e
          · obtain ⟨_, e, _⟩ := this; cases e
          · obtain ⟨_, _, _, e, _⟩ := this; cases e
          · exact absurd hcl hcls
      have hcl := op_cls EO hs1
      cases hcc : cls o.op <;> rw [hcc] at hcl
      · -- it looks at no memory
        obtain ⟨av, e, hrun⟩ := hcl
        obtain ⟨rfl, _⟩ := ARes.val.inj e
        obtain ⟨u, h1, h2⟩ := hrun ρ a' w' hc
        exact wpIn_value (noDefer hs1) h1 (stay hlt ρ w' v u (fun _ _ hh => hh) h.hr (fun id hh => absurd rfl hh) hput h2)
      · -- it looks at memory
        rcases last_wr pl l k hlk with hno | ⟨m, pm, m1, m2, m3, m4, m5⟩
        · obtain ⟨av, e, hrun⟩ := hcl
          obtain ⟨rfl, _⟩ := ARes.val.inj e
          have hk := (between (w0 := w0) EO PO hS k hlk h.kle hno).1.keeps (h.wf l hlk)
          obtain ⟨u, h1, h2⟩ := hrun w0 ρ _ w' a' hk h.hr hc
          exact wpIn_value (noDefer hs1) h1 (stay hlt ρ w' v u (fun _ _ hh => hh) h.hr (fun id hh => absurd rfl hh) hput h2)
        · have hml : l < m := by
            rcases Nat.lt_or_ge l m with g | g
            · exact g
            · have : l = m := by omega
              subst this
              rw [hp] at m3; cases m3; rw [m4] at hnw; cases hnw
          obtain ⟨om, hom, _, hagm⟩ := hS m pm m3
          cases hpm : pm with
          | op j => rw [hpm] at m4; cases m4
          | wr wi re =>
            have PCm := PO.pc m pm m3
            have hre : p.i ∈ re := by
              rcases PCm.rd wi re hpm p (mem_take.2 ⟨l, hml, hp⟩) o ho hcc with g | g
              · exact g
              · exfalso
                have hl2 := h.wrs m pm m2 m3 m4
                have hwi : pm.i = wi := by rw [hpm]; rfl
                rw [hwi] at hl2
                have := h.closed.anc g hl2
                rw [hun] at this; cases this
            obtain ⟨o2, ho2, hag2⟩ := hagm wi re hpm p.i hre
            rw [ho] at ho2; cases ho2
            have hm1 : m + 1 ≤ pl.length := by have := h.kle; omega
            obtain ⟨hc2, hw2⟩ := hctx (jj := m + 1) hm1 (fun t ht lm pm2 om2 q1 q2 q3 => by
              have ha := PCm.rlook wi re hpm p.i hre o pm2.i om2 t ho q2 q3 ht
              obtain ⟨j', p', g1, g2, g3⟩ := PO.anc_pos ha hp rfl
              have := PO.pos g2 q1 g3
              exact .inl ⟨ha, by omega⟩)
            have hwt1 := hw _ hwt
            rcases hag2 with hno | ⟨_, v2, H1, hop2, hdst2⟩
            · rw [hw2 _ hno] at hwt1; cases hwt1
            · have hcl2' := op_cls EO hop2
              rw [hcc] at hcl2'
              obtain ⟨av2, e2, hrun2⟩ := hcl2'
              obtain ⟨rfl, _⟩ := ARes.val.inj e2
              have hk := (between (w0 := w0) EO PO hS (j := m + 1) k (by omega) h.kle m5).1.keeps (h.wf (m + 1) (by omega))
              obtain ⟨u, h1, h2⟩ := hrun2 w0 ρ _ w' a' hk h.hr hc2
              refine wpIn_value (noDefer hs1) h1 ?_
              cases hd : o.dst with
              | none =>
                rw [hd] at hput
                have hput' : APut (S l).1 o.dst v2 (S (l + 1)).1 := by
                  rw [hd]
                  exact ⟨hput.size, hput.marks, hput.round, hput.fn, hput.lt, fun j => by rw [hput.get]; simp⟩
                have := stay hlt ρ w' v2 u (fun _ _ hh => hh) h.hr (fun id hh => absurd rfl hh) hput' h2
                rw [hd] at this; exact this
              | some t =>
                have e3 := hdst2 t hd
                have e4 := (PO.written hS hp rfl ho hd).1 (m + 1) (by omega) hm1
                rw [e3, hput.get, if_pos hd] at e4
                obtain rfl := (Option.some.inj e4)
                have := stay hlt ρ w' v2 u (fun _ _ hh => hh) h.hr (fun id hh => absurd rfl hh) hput h2
                rw [hd] at this; exact this
      · -- it makes an object
        obtain ⟨av, ob, H', e, hA, hro, hrun⟩ := hcl
        obtain ⟨rfl, hH⟩ := ARes.val.inj e
        rw [← hH] at hA
        have hn1 : (S (l + 1)).2.next = (S l).2.next + 1 := hA.1
        obtain ⟨g1, g2⟩ := h.un l p hlt hp hun (S l).2.next (Nat.le_refl _) (by omega)
        obtain ⟨x, N, u, h1, h2, h3⟩ := hrun ρ a' w' hc g1
        have hgob : (S k).2.t.get (S l).2.next = some ob := by rw [g2, hA.2, if_pos rfl]
        have hidlt : (S l).2.next < (S k).2.next := by have := h.mono (l + 1) k (by omega) (Nat.le_refl _); omega
        have hr2 := h.hr.named hidlt g1 hgob h2 h.hr.chg.size
        refine wpIn_value (noDefer hs1) h1 (stay hlt _ _ v u (Ren.add_ext g1) hr2 (fun id hh => ?_) hput h3)
        unfold Ren.add at hh
        split at hh
        · rename_i e; omega
        · exact absurd rfl hh
      · exact absurd hcc hcls
    · rw [if_neg (by rw [hw _ hwt]; simp)]
      exact ⟨fun _ _ => trivial, stay hlt ρ w' undefA undef (fun _ _ hh => hh) h.hr (fun id hh => absurd rfl hh) hput (.lit _)⟩
end
end
end Go.Proofs.YtclljjfkaljdnaaGreatDoor
