/- Bodies of functions, and all runs of the evaluator's. No program in sight. -/
import Derived.Test.YtclljjfkaljdnaaGreatDoorE19
namespace Go.Proofs.YtclljjfkaljdnaaGreatDoor
open Go.RowKit

section
variable {P : Program} {E : Env} {rc : Go'} {w0 w : World} {ρ : Ren} {H : AH}

/-! ### results -/
theorem readK_any {β : Type} {t : Tr AV} {off m : Nat} {k : List AV → R β} {q : β} (h : readK t off m k = .ok q) : ∃ l, k l = .ok q ∧ readK t off m R.ok = .ok l := by
  have key : ∀ (m : Nat) (acc : List AV), natR (α := List AV) (β := R β) k (fun i ih acc => getK t (Nat.add off i) (fun v => ih (v :: acc)) (.er [4, off, i])) m acc = .ok q →
      ∃ l, k l = .ok q ∧ natR (α := List AV) (β := R (List AV)) R.ok (fun i ih acc => getK t (Nat.add off i) (fun v => ih (v :: acc)) (.er [4, off, i])) m acc = .ok l := by
    intro m
    induction m with
    | zero => intro acc h; exact ⟨acc, h, rfl⟩
    | succ m ih =>
      intro acc h
      rw [natR_succ] at h
      obtain ⟨v, h1, h2⟩ := getK_ok h
      obtain ⟨l, h3, h4⟩ := ih _ h2
      refine ⟨l, h3, ?_⟩
      rw [natR_succ, getK_eq, h1]
      exact h4
  unfold readK at h ⊢
  exact key m [] h
theorem loadK_any {β : Type} {t : TypeId} {a : AV} {k : AV → R β} {q : β} (h : loadK E t a H k = .ok q) : ∃ x, k x = .ok q ∧ loadK E t a H R.ok = .ok x := by
  unfold loadK at h
  split at h
  · rename_i id off
    replace h := objK_ok h; obtain ⟨ob, hob, h⟩ := h
    split at h
    · rename_i n cs ro
      replace h := tiK_ok h; obtain ⟨i, hi, h⟩ := h
      have fin : ∀ x, boolC (boolC (.er [27]) (getK cs off R.ok (.er [28, id, off])) (Nat.blt off n)) (boolC (.er [29, id, off]) (readK cs off i.size fun l => .ok (.agg l)) (Nat.ble (Nat.add off i.size) n)) (isAggD i.desc) = .ok x → loadK E t (.ptr id off) H R.ok = .ok x := by
        intro x hx
        show objK H id _ = _
        have : ∀ (k : AO → R AV), objK H id k = k (.cells n cs ro) := by
          intro k
          cases H
          show getK _ id k _ = _
          rw [getK_eq]
          rw [show Tr.get _ id = _ from hob]
        rw [this]
        show getK E.tt t _ _ = _
        rw [getK_eq, hi]
        exact hx
      cases hag : isAggD i.desc with
      | false =>
        rw [hag, boolC_false] at h
        replace h := boolC_er h; obtain ⟨hlt, h⟩ := h
        replace h := getK_ok h; obtain ⟨x, hx, h⟩ := h
        refine ⟨x, h, fin x ?_⟩
        rw [hag, boolC_false, hlt, boolC_true, getK_eq, hx]
      | true =>
        rw [hag, boolC_true] at h
        replace h := boolC_er h; obtain ⟨hlt, h⟩ := h
        replace h := readK_any h; obtain ⟨l, h, hl⟩ := h
        refine ⟨.agg l, h, fin _ ?_⟩
        rw [hag, boolC_true, hlt, boolC_true]
        obtain ⟨l2, h2, h3⟩ := readK_any (k := fun l => R.ok (AV.agg l)) (t := cs) (off := off) (m := i.size) (q := .agg l) (by
          obtain ⟨l', g1, g2, g3⟩ := readK_spec hl
          have e : l' = l := by cases g3; rfl
          subst e
          have key : ∀ {γ : Type} (k : List AV → R γ) (m : Nat) (acc l : List AV), natR (α := List AV) (β := R (List AV)) R.ok (fun i ih acc => getK cs (Nat.add off i) (fun v => ih (v :: acc)) (.er [4, off, i])) m acc = .ok l →
              natR (α := List AV) (β := R γ) k (fun i ih acc => getK cs (Nat.add off i) (fun v => ih (v :: acc)) (.er [4, off, i])) m acc = k l := by
            intro γ k m
            induction m with
            | zero => intro acc l h; cases h; rfl
            | succ m ih =>
              intro acc l h
              rw [natR_succ] at h
              obtain ⟨v, h1, h2⟩ := getK_ok h
              rw [natR_succ, getK_eq, h1]
              exact ih _ _ h2
          unfold readK at hl ⊢
          exact key _ _ _ _ hl)
        cases h2
        have key2 : readK cs off i.size (fun l => R.ok (AV.agg l)) = .ok (.agg l) := by
          have key : ∀ {γ : Type} (k : List AV → R γ) (m : Nat) (acc l : List AV), natR (α := List AV) (β := R (List AV)) R.ok (fun i ih acc => getK cs (Nat.add off i) (fun v => ih (v :: acc)) (.er [4, off, i])) m acc = .ok l →
              natR (α := List AV) (β := R γ) k (fun i ih acc => getK cs (Nat.add off i) (fun v => ih (v :: acc)) (.er [4, off, i])) m acc = k l := by
            intro γ k m
            induction m with
            | zero => intro acc l h; cases h; rfl
            | succ m ih =>
              intro acc l h
              rw [natR_succ] at h
              obtain ⟨v, h1, h2⟩ := getK_ok h
              rw [natR_succ, getK_eq, h1]
              exact ih _ _ h2
          unfold readK at hl ⊢
          exact key _ _ _ _ hl
        exact key2
    · cases h
  · cases h

/-- One value, or several. -/
def packA (l : List AV) : AV :=
  match l with
  | [v] => v
  | l => .tup l
/-- A result, in the evaluator. -/
def RV (E : Env) (s : Tr AV) (H : AH) (r : ResultVar) (v : AV) : Prop :=
  match r with
  | .tmp t => s.get t = some v
  | .cell a t => ∃ p, s.get a = some p ∧ loadK E t p H R.ok = .ok v
theorem resK_ok {β : Type} {s : Tr AV} {rs : List ResultVar} {k : AV → R β} {q : β} (h : resK E s H rs k = .ok q) : ∃ l, F2 (RV E s H) rs l ∧ k (packA l) = .ok q := by
  unfold resK at h
  obtain ⟨l, h1, h2⟩ := mapK_ok (S := RV E s H) (fun r k q h => by
    cases r with
    | tmp t => exact getK_ok h
    | cell a t =>
      obtain ⟨p, hp, h⟩ := getK_ok h
      obtain ⟨x, h1, h2⟩ := loadK_any h
      exact ⟨x, ⟨p, hp, h2⟩, h1⟩) h
  refine ⟨l, h1, ?_⟩
  rcases l with _ | ⟨v, _ | ⟨u, l⟩⟩ <;> exact h2

def resOf (tm : Array Value) : ResultVar → Sem Value
  | .tmp t => pure (tm.getD t undef)
  | .cell a t => do loadVar t (← asAddr (tm.getD a undef))
theorem run_results (EO : EnvOK P E) {s : Tr AV} {tm : Array Value} (hr : HR E w0 ρ H w) (hs : ∀ (t : Nat) av, s.get t = some av → ∃ v, tm[t]? = some v ∧ Rl ρ av v) : ∀ {rs : List ResultVar} {l : List AV}, F2 (RV E s H) rs l →
    ∃ vs : List Value, (rs.mapM (resOf tm)).run P w = .ok vs w ∧ RlL ρ l vs := by
  intro rs l h
  induction h with
  | nil => exact ⟨[], rfl, .nil⟩
  | @cons r v rs l h1 _ ih =>
    obtain ⟨vs, h2, h3⟩ := ih
    cases r with
    | tmp t =>
      obtain ⟨u, h4, h5⟩ := hs t v h1
      refine ⟨u :: vs, ?_, .cons h5 h3⟩
      have : tm.getD t undef = u := by rw [Array.getD_eq_getD_getElem?, h4]; rfl
      simp only [List.mapM_cons, resOf, Sem.run_bind, this, Sem.run_pure, Result.andThen_ok, h2]
    | cell a t =>
      obtain ⟨p, hp, hl⟩ := h1
      obtain ⟨pv, h4, h5⟩ := hs a p hp
      obtain ⟨ad, x, u, e1, e2, e3, e4⟩ := HR.load EO (Keeps.refl H) hr hl h5
      cases e4
      refine ⟨u :: vs, ?_, .cons e3 h3⟩
      have : tm.getD a undef = .pointer (some ad) := by rw [Array.getD_eq_getD_getElem?, h4, e1]; rfl
      simp only [List.mapM_cons, resOf, Sem.run_bind, this, asAddr, Sem.run_pure, Result.andThen_ok, e2, h2]

/-- What a function hands back. -/
theorem results_ok (EO : EnvOK P E) {fn : Func} {s : Tr AV} {tm : Array Value} {l : List AV} (hr : HR E w0 ρ H w) (hs : ∀ (t : Nat) av, s.get t = some av → ∃ v, tm[t]? = some v ∧ Rl ρ av v) (h : F2 (RV E s H) fn.results.toList l) :
    ∃ u, (results fn tm).run P w = .ok u w ∧ Rl ρ (packA l) u := by
  obtain ⟨vs, h1, h2⟩ := run_results EO hr hs h
  have hres : results fn tm = (do let vs ← fn.results.mapM (resOf tm); pure (if h : vs.size = 1 then vs[0] else .tuple vs)) := rfl
  rw [hres]
  refine ⟨if h : vs.toArray.size = 1 then vs.toArray[0] else .tuple vs.toArray, ?_, ?_⟩
  · simp [Array.mapM_eq_mapM_toList, h1]
  · have hlen := h2.length
    rcases l with _ | ⟨v, _ | ⟨u, l⟩⟩
    · rcases vs with _ | ⟨x, vs⟩
      · exact .tup .nil
      · simp at hlen
    · rcases vs with _ | ⟨x, _ | ⟨y, vs⟩⟩
      · simp at hlen
      · cases h2 with | cons h3 _ => exact h3
      · simp at hlen
    · rcases vs with _ | ⟨x, _ | ⟨y, vs⟩⟩
      · simp at hlen
      · simp at hlen
      · rw [dif_neg (by simp)]
        exact .tup h2

/-! ### the marks -/
theorem HR.drop (h : HR E w0 ρ H w) {H' : AH} {w' : World} {id b sh N : Nat} {ob : AO} (hi : ρ id = some (b, sh, N)) (ho : H.t.get id = some ob) (hro : ob.isRo = false) (hT : Turned H id none H')
    (hsz : w'.heap.size = w.heap.size) (hbk : ∀ k, k ≠ b → w'.heap[k]? = w.heap[k]?) (h2 : w'.os = w.os) (h3 : w'.tape = w.tape) (h4 : w'.output = w.output) : HR E w0 ρ H' w' ∧ Later ρ H ρ H' := by
  have hB := h.own id b sh N ob hi ho hro
  have back : ∀ j o', H'.t.get j = some o' → j ≠ id ∧ H.t.get j = some o' := by
    intro j o' hj
    rw [hT.2] at hj
    split at hj
    · cases hj
    · rename_i e; exact ⟨e, hj⟩
  refine ⟨⟨fun j p hp => by rw [hT.1]; exact h.lt j p hp, ?_, ?_, ?_, fun j b' s' N' hj => by rw [hsz]; exact h.blk j b' s' N' hj, h.glob, ?_, fun j hj => ?_⟩, fun _ _ h => h, fun j hj hn => ⟨hn, ?_⟩, by rw [hT.1]; omega⟩
  · intro j b' s' N' o' h5 h6
    obtain ⟨e1, e2⟩ := back j o' h6
    rw [hbk b' (fun e => by subst e; exact e1 (h.inj j id b' s' N' sh N _ _ h5 hi e2 ho hro))]
    exact h.obj j b' s' N' o' h5 e2
  · intro i j b' s1 N1 s2 N2 o1 o2 h5 h6 h7 h8 h9
    exact h.inj i j b' s1 N1 s2 N2 o1 o2 h5 h6 (back _ _ h7).2 (back _ _ h8).2 h9
  · intro j b' s' N' o' h5 h6 h7
    exact h.own j b' s' N' o' h5 (back _ _ h6).2 h7
  · exact ⟨h2.trans h.chg.os, h3.trans h.chg.tape, h4.trans h.chg.output, by rw [hsz]; exact h.chg.size, fun k hk hs => by
      rw [hbk k (by omega)]; exact h.chg.block k hk hs⟩
  · rw [hT.2]; split; rfl; exact h.fr j (by rw [hT.1] at hj; exact hj)
  · rw [hT.2, if_neg]
    rintro rfl
    rw [hi] at hn; cases hn

theorem eraseL_ok {β : Type} {k : AH → R β} {q : β} : ∀ {l : List Nat} {H : AH}, eraseL l H k = .ok q → ∃ H', k H' = .ok q ∧ ∀ (n : Nat) (fn : Func) (tm : Array Value) (Q : Ending → World → Prop) (ρ : Ren) (w : World) (ds : List Deferred), HR E w0 ρ H w → F2 (MarkR ρ) l ds →
    (∀ w', HR E w0 ρ H' w' → Later ρ H ρ H' → ∃ v, (results fn tm).run P w' = .ok v w' ∧ Q (.returned v) w') → LeavesInM Fence.wide n P fn tm Q ds .returning w
  | [], H, h => ⟨H, h, fun n fn tm Q ρ w ds hr hm hk => by
      cases hm
      exact hk w hr (Later.refl _ _)⟩
  | id :: l, H, h => by
    have h' : objK H id (fun o => match o with | .deferred => updK H id none (fun H => eraseL l H k) | _ => .er [185]) = .ok q := h
    replace h' := objK_ok h'; obtain ⟨ob, hob, h'⟩ := h'
    split at h'
    · replace h' := updK_ok h'; obtain ⟨H1, hT, h'⟩ := h'
      obtain ⟨H2, h1, h2⟩ := eraseL_ok (l := l) h'
      refine ⟨H2, h1, fun n fn tm Q ρ w ds hr hm hk => ?_⟩
      cases hm with
      | @cons _ d _ ds hd hm =>
        obtain ⟨b, sh, N, hb, rfl⟩ := hd
        have hblk : w.heap[b]? = some (.deferred (some [])) := hr.obj _ _ _ _ _ hb hob
        obtain ⟨g1, g2⟩ := hr.drop (w' := w.putObj b (.deferred none)) hb hob rfl hT (by simp [World.putObj]) (fun k hk => World.putObj_heap_other hk) rfl rfl rfl
        refine ⟨by simp, .inl ⟨b, _, rfl, run_takeDeferred hblk, ?_⟩⟩
        exact h2 n fn tm Q ρ _ ds g1 hm fun w' k1 k2 => hk w' k1 (g2.trans k2)
    · cases h'

/-! ### bodies -/
theorem body_ok (EO : EnvOK P E) (RO : RcOK P E w0 rc) {f : FuncId} {args : List AV} {H H' : AH} {v : AV} (h : bodyS E rc f args H = .ok (v, H')) : CallOK P E w0 f args H v H' := by
  unfold bodyS at h
  replace h := getK_ok h; obtain ⟨fn, hfn, h⟩ := h
  have hf := EO.ft _ _ hfn
  cases hb : fn.body with
  | none => rw [hb] at h; cases h
  | some c =>
    rw [hb] at h
    dsimp only at h
    unfold slotsK at h
    replace h := writeK_ok h; obtain ⟨s, hs, h⟩ := h
    rw [lenK_eq] at h
    replace h := forceN_ok h
    cases hx : codeS E rc c ⟨s, Nat.add args.length (Nat.sub fn.ntmps args.length), [], none, f⟩ H with
    | er e => rw [hx] at h; cases h
    | ok r =>
      rw [hx] at h
      obtain ⟨ex, fr1, H1⟩ := r
      obtain ⟨s', n', m, rd, fnn⟩ := fr1
      have hend : (ex = .normal ∨ ex = .ret) ∧ eraseL m H1 (fun H2 => resK E s' H2 fn.results.toList fun v => .ok (v, H2)) = .ok (v, H') := by
        cases ex with
        | normal => exact ⟨.inl rfl, h⟩
        | ret => exact ⟨.inr rfl, h⟩
        | exit j => cases h
      obtain ⟨hex, h2⟩ := hend
      obtain ⟨H2, h3, hleave⟩ := eraseL_ok (P := P) (E := E) (w0 := w0) h2
      obtain ⟨l, hl, h4⟩ := resK_ok h3
      cases h4
      intro ρ w args' hh hargs
      refine ⟨MuLone.run_callFunc_enter hf (EO.nm f fn hf (by rw [hb]; rfl)) hb args' w, (callsIn_wide (n := 0)).1 (callsIn_of_wp_marks hf hb trivial ?_)⟩
      have hlen := hargs.length
      simp only [Array.length_toList] at hlen
      have fr0 : FR ρ none ⟨s, Nat.add args.length (Nat.sub fn.ntmps args.length), [], none, f⟩ { tmps := args' ++ Array.replicate (fn.ntmps - args'.size) undef, defers := [] } := by
        refine ⟨?_, fun t av ht => ?_, .nil, .inl ⟨rfl, rfl⟩⟩
        · show (args' ++ Array.replicate (fn.ntmps - args'.size) undef).size = args.length + (fn.ntmps - args.length)
          simp [hlen]
        · have ht' : s.get t = some av := ht
          rw [hs] at ht'
          by_cases e : 0 ≤ t ∧ t < 0 + args.length
          · rw [if_pos e, Nat.sub_zero] at ht'
            obtain ⟨u, h5, h6⟩ := hargs.get ht'
            refine ⟨u, ?_, h6⟩
            show (args' ++ Array.replicate (fn.ntmps - args'.size) undef)[t]? = some u
            rw [Array.getElem?_append_left (by omega)]
            simpa using h5
          · rw [if_neg e, Tr.get_e] at ht'
            cases ht'
      obtain ⟨_, sim⟩ := sim_code EO RO c _ _ _ _ _ hx (EO.pl f fn c hfn hb)
      refine sim 0 ρ none _ w _ hh fr0 fun e ρ1 a1 w1 he hf1 hh1 hl1 => ?_
      have fin : LeavesInM Fence.wide 0 P fn a1.tmps (fun e w' => ∃ u ρ', e = .returned u ∧ Rl ρ' (packA l) u ∧ HR E w0 ρ' H' w' ∧ Later ρ H ρ' H') a1.defers .returning w1 := by
        refine hleave 0 fn a1.tmps _ ρ1 w1 a1.defers hh1 hf1.marks fun w2 hh2 hl2 => ?_
        obtain ⟨u, h5, h6⟩ := results_ok EO (fn := fn) hh2 hf1.slot hl
        exact ⟨u, h5, u, ρ1, rfl, h6, hh2, hl1.trans hl2⟩
      rcases hex with rfl | rfl <;> cases e <;> first | (cases he; done) | exact fin

/-! ### all runs -/
/-- Calls that are not looked into. -/
def HkOK (P : Program) (E : Env) (w0 : World) : Prop :=
  ∀ f h args H v H', E.hk.get f = some (h + 2) → hookK E (h + 2) args H = .ok (v, H') → CallOK P E w0 f args H v H'

theorem goK_ok (EO : EnvOK P E) (HK : HkOK P E w0) : ∀ n, RcOK P E w0 (goK E n)
  | 0 => ⟨fun _ _ _ _ _ h => (by cases h), fun _ _ _ _ _ h => (by cases h)⟩
  | n + 1 => by
    have ih := goK_ok EO HK n
    refine ⟨fun f args H v H' h => ?_, fun l args H v H' h => ?_⟩
    · have h' : getK E.hk f (fun h => natC (bodyS E (goK E n) f args H) (fun h' => natC (bodyS E (goK E n) f args H) (fun _ => hookK E h args H) h') h) (bodyS E (goK E n) f args H) = .ok (v, H') := h
      rw [getK_eq] at h'
      cases hh : E.hk.get f with
      | none => rw [hh] at h'; exact body_ok EO ih h'
      | some k =>
        rw [hh] at h'
        rcases k with _ | _ | k
        · exact body_ok EO ih h'
        · exact body_ok EO ih h'
        · exact HK f k args H v H' hh h'
    · exact round_ok EO ih h

/-- **A CLOSED RUN**: what the evaluator comes to the machine comes to. -/
theorem run_sound (EO : EnvOK P E) (HK : HkOK P E w0) {n : Nat} {f : FuncId} {args : List AV} {args' : Array Value} {H H' : AH} {v : Value} (h : goK E n (.call f args) H = .ok (.lit v, H')) (hh : HR E w0 ρ H w0) (ha : RlL ρ args args'.toList) :
    Calls P f args' w0 fun e w' => e = .returned v ∧ Chg (fun _ => False) w0 w' := by
  obtain ⟨_, h2⟩ := (goK_ok EO HK n).call _ _ _ _ _ h ρ w0 args' hh ha
  refine h2.mono ?_
  rintro e w' ⟨u, ρ', rfl, h3, h4, _⟩
  exact ⟨by rw [h3.inv_lit], h4.chg⟩
end
end Go.Proofs.YtclljjfkaljdnaaGreatDoor
