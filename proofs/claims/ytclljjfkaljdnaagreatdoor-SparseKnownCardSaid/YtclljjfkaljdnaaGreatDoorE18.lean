/- Regions that draw: the rule; statements without ranges over functions. No program in sight. -/
import Derived.Test.YtclljjfkaljdnaaGreatDoorE17
namespace Go.Proofs.YtclljjfkaljdnaaGreatDoor
open Go.RowKit

section
variable {P : Program} {E : Env} {rc : Go'} {w0 : World} {ops : Array Oper} {pl : List PStep} {S : Nat → AFr × AH}
section
variable {ρ0 ρ : Ren} {a a' : Act} {w' : World} {listed : Array Bool} {k : Nat} {ro : Option Nat}

theorem ready_all (PO : PlanOK ops pl) (hs : listed.size = ops.size) (hr : Region.ready .any ops listed = []) : ∀ i, i < ops.size → listed.getD i false = true := by
  have key : ∀ (l : Nat) (p : PStep), pl[l]? = some p → listed.getD p.i false = true := by
    intro l
    induction l using Nat.strongRecOn with
    | _ l ih =>
      intro p hp
      have PCp := PO.pc l p hp
      cases hl : listed.getD p.i false with
      | true => rfl
      | false =>
        exfalso
        have hlt := PCp.lt
        have ho : ops[p.i]? = some ops[p.i] := Array.getElem?_eq_getElem hlt
        have hm : p.i ∈ Region.ready .any ops listed := by
          refine mem_ready.2 ⟨?_, _, ho, fun e he hb => ?_⟩
          · have : p.i < listed.size := by rw [hs]; exact PCp.lt
            simpa [this] using hl
          · obtain ⟨q, hq, hqi⟩ := PCp.preds _ ho e he hb
            obtain ⟨l', h1, h2⟩ := mem_take.1 hq
            rw [← hqi]; exact ih l' h1 q h2
        rw [hr] at hm; cases hm
  intro i hi
  obtain ⟨l, p, hp, rfl⟩ := PO.surj i hi
  exact key l p hp

theorem DI.finish (PO : PlanOK ops pl) (hS : Steps' E rc ops pl S) (hf : FR ρ0 ro (S 0).1 a) (h : DI E w0 ops pl S ρ0 a listed k ρ a' w') (hall : ∀ i, i < ops.size → listed.getD i false = true) :
    k = pl.length ∧ FR ρ ro (S k).1 a' := by
  have hk : k = pl.length := by
    rcases h.kwr with e | ⟨p, h1, _, h3⟩
    · exact e
    · rw [hall p.i (PO.pc k p h1).lt] at h3; cases h3
  refine ⟨hk, ?_⟩
  obtain ⟨s1, s2, s3, _⟩ := same_frame hS k h.kle
  refine ⟨by rw [h.tsize, hf.size, s1], fun t av ha => ?_, ?_, ?_⟩
  · by_cases hex : ∃ (m : Nat) (om : Oper), ops[m]? = some om ∧ om.dst = some t
    · obtain ⟨m, om, hm, hd⟩ := hex
      have hmlt := (Array.getElem?_eq_some_iff.1 hm).1
      obtain ⟨lm, pm, hpm, hpi⟩ := PO.surj m hmlt
      have hlt := (List.getElem?_eq_some_iff.1 hpm).1
      rw [(PO.written hS hpm hpi hm hd).1 k (by omega) h.kle] at ha
      exact h.done lm pm om t hpm (by rw [hpi]; exact hm) hd (by rw [hpi]; exact hall m hmlt) av ha
    · rw [unwritten hS (fun m om h1 h2 => hex ⟨m, om, h1, h2⟩) k h.kle] at ha
      exact h.still t (fun i o h1 h2 => absurd ⟨i, o, h1, h2⟩ hex) av ha
  · rw [s2, h.defers]
    exact hf.marks.mono fun _ _ hm => hm.mono h.later.ext
  · rw [s3]
    exact hf.round.imp id fun ⟨l, b, s, N, h1, h2, h3⟩ => ⟨l, b, s, N, h1, h.later.ext _ _ h2, h3⟩

theorem wpAnyIn_di (EO : EnvOK P E) (RO : RcOK P E w0 rc) (PO : PlanOK ops pl) (hS : Steps' E rc ops pl S) (hf : FR ρ0 ro (S 0).1 a) (n : Nat) (Q : Exit → Act → World → Prop)
    (hQ : ∀ ρ a' w', FR ρ ro (S pl.length).1 a' → HR E w0 ρ (S pl.length).2 w' → Later ρ0 (S 0).2 ρ (S pl.length).2 → Q .normal a' w') :
    ∀ (fuel : Nat) (listed : Array Bool) (k : Nat) (ρ : Ren) (a' : Act) (w' : World), DI E w0 ops pl S ρ0 a listed k ρ a' w' → (∀ i, fuel = 0 → i < ops.size → listed.getD i false = true) →
      ops.size - listed.toList.countP (· == true) ≤ fuel → wpAnyIn (Fw ro) n P .any ops Q fuel listed a' w' := by
  have hend : ∀ listed k ρ a' w', DI E w0 ops pl S ρ0 a listed k ρ a' w' → (∀ i, i < ops.size → listed.getD i false = true) → Q .normal a' w' := by
    intro listed k ρ a' w' hI hall
    obtain ⟨hk, hfr⟩ := hI.finish PO hS hf hall
    subst hk
    exact hQ ρ a' w' hfr hI.hr hI.later
  intro fuel
  induction fuel with
  | zero =>
    intro listed k ρ a' w' hI hz _
    have hall := fun i hi => hz i rfl hi
    refine ⟨?_, hend _ _ _ _ _ hI hall⟩
    cases hr : Region.ready .any ops listed with
    | nil => rfl
    | cons i r =>
      have hm : i ∈ Region.ready .any ops listed := by rw [hr]; simp
      obtain ⟨h1, o, ho, _⟩ := mem_ready.1 hm
      have hi := (Array.getElem?_eq_some_iff.1 ho).1
      have := hall i hi
      rw [bool_of_getD (by simpa using h1)] at this; cases this
  | succ fuel ih =>
    intro listed k ρ a' w' hI _ hcnt
    refine ⟨fun hr => hend _ _ _ _ _ hI (ready_all PO hI.size hr), fun i hm => ?_⟩
    obtain ⟨h1, o, ho, hr⟩ := mem_ready.1 hm
    have hi := (Array.getElem?_eq_some_iff.1 ho).1
    have hi' : i < listed.size := by rw [hI.size]; exact hi
    have hun : listed.getD i false = false := bool_of_getD (by simpa using h1)
    have hcnt' : ops.size - (listed.setIfInBounds i true).toList.countP (· == true) ≤ fuel := by
      have hli : listed.toList[i]'(by simpa using hi') = false := by simp [hi'] at hun; simpa using hun
      have : (listed.setIfInBounds i true).toList.countP (· == true) = listed.toList.countP (· == true) + 1 := by
        rw [Array.toList_setIfInBounds]
        rw [List.countP_set (by simpa using hi'), hli]
        simp
      omega
    have hz' : ∀ j, fuel = 0 → j < ops.size → (listed.setIfInBounds i true).getD j false = true := by
      intro j hf hj
      subst hf
      have hle : (listed.setIfInBounds i true).toList.length ≤ (listed.setIfInBounds i true).toList.countP (· == true) := by
        simp only [Array.length_toList, Array.size_setIfInBounds, hI.size]; omega
      have hall := List.countP_eq_length.1 (Nat.le_antisymm List.countP_le_length hle)
      have hk' : j < (listed.setIfInBounds i true).toList.length := by simp [hI.size, hj]
      have := hall _ (List.getElem_mem hk')
      simp only [beq_iff_eq] at this
      have hks : j < (listed.setIfInBounds i true).size := by simpa using hk'
      rw [Array.getD_eq_getD_getElem?, Array.getElem?_eq_getElem hks]
      simpa using (Array.getElem_toList hks).symm.trans this
    exact hI.step EO RO PO hS hf.size hm n ro Q _ fun k2 ρ2 a2 w2 h2 => ih _ _ _ _ _ h2 hz' hcnt'
end

/-- A region that draws its order. -/
theorem region_draw (EO : EnvOK P E) (RO : RcOK P E w0 rc) (PO : PlanOK ops pl) {β : Type} {k : AFr → AH → R β} {q : β} {fr : AFr} {H : AH} (h : planK E rc ops.toList pl k fr H = .ok q) :
    ∃ fr' H', k fr' H' = .ok q ∧ fr'.fn = fr.fn ∧ ∀ (n id : Nat) (ρ : Ren) (ro : Option Nat) (a : Act) (w : World) (Q : Exit → Act → World → Prop), HR E w0 ρ H w → FR ρ ro fr a →
      (∀ ρ' a' w', FR ρ' ro fr' a' → HR E w0 ρ' H' w' → Later ρ H ρ' H' → Q .normal a' w') → (Code.region id ops true).wpIn (Fw ro) n P Q a w := by
  obtain ⟨S, hS0, hSn, hS⟩ := planK_trace h
  have hfr := (same_frame hS pl.length (Nat.le_refl _)).2.2.2
  refine ⟨(S pl.length).1, (S pl.length).2, hSn, by rw [hfr, hS0], fun n id ρ ro a w Q hh hf hk => ?_⟩
  obtain ⟨k0, _, e2, e3, e4⟩ := next_wr pl pl.length 0 (by omega)
  have hH0 : (S 0).2 = H := by rw [hS0]
  have hF0 : (S 0).1 = fr := by rw [hS0]
  have hd : HR E w0 ρ (S 0).2 { w with drawn := w.drawn + 1 } := by rw [hH0]; exact hh.drew rfl rfl rfl rfl
  have btw : ∀ j, j ≤ k0 → Grew (S 0).2 (S j).2 ∧ ∀ ρ w, HR E w0 ρ (S 0).2 w → HR E w0 ρ (S j).2 w :=
    fun j hj => between (w0 := w0) EO PO hS j (Nat.zero_le _) (by omega) fun l p a1 a2 => e3 l p a1 (by omega)
  have hrep : ∀ i, (Array.replicate ops.size false).getD i false = false := by
    intro i
    rw [Array.getD_eq_getD_getElem?, Array.getElem?_replicate]
    split <;> rfl
  refine wpIn_region_any EO.mixed (wpAnyIn_di EO RO PO hS (by rw [hF0]; exact hf) n Q ?_ ops.size _ k0 ρ a _ ⟨by simp, ?_, e2, ?_, ?_, ?_, (btw k0 (Nat.le_refl _)).2 _ _ hd, ?_, ?_, ?_, ?_, rfl, rfl, ?_, ?_⟩ ?_ (by omega))
  · intro ρ' a' w' h1 h2 h3
    rw [hH0] at h3
    exact hk ρ' a' w' h1 h2 h3
  · intro i o _ hi
    simp only [hrep] at hi; cases hi
  · intro l p a1 a2 a3
    have := e3 l p (Nat.zero_le _) a1 a2
    rw [a3] at this; cases this
  · rcases e4 with e4 | ⟨p, h1, h2⟩
    · exact .inl e4
    · exact .inr ⟨p, h1, h2, hrep _⟩
  · intro l p _ h2
    rw [hrep] at h2; cases h2
  · intro j hj id hid
    exact ((btw j hj).2 _ _ hd).fr id hid
  · have g := (btw k0 (Nat.le_refl _)).1
    exact ⟨fun _ _ hh => hh, fun id hid hn => ⟨hn, g.get id hid⟩, g.next⟩
  · intro l p a1 a2 a3 id b1 b2
    refine ⟨?_, ?_⟩
    · cases hq : ρ id with
      | none => rfl
      | some q =>
        have := hd.lt id q hq
        have := (btw l (by omega)).1.next
        omega
    · exact (between (w0 := w0) EO PO hS (j := l + 1) k0 (by omega) e2 fun l2 p2 c1 c2 => e3 l2 p2 (by omega) c2).1.get id b2
  · intro i j hij hj
    exact (between (w0 := w0) EO PO hS (j := i) j hij (by omega) fun l2 p2 c1 c2 => e3 l2 p2 (by omega) (by omega)).1.next
  · intro l p o t _ _ _ h4
    rw [hrep] at h4; cases h4
  · intro t _ av hav
    rw [hF0] at hav
    exact hf.slot t av hav
  · intro i hz hi; omega
end

/-! ### statements -/
def ExRel : AEx → Exit → Prop
  | .normal, .normal => True
  | .exit i, .exit j => i = j
  | .ret, .ret => True
  | _, _ => False

section
variable {P : Program} {E : Env} {rc : Go'} {w0 : World}

/-- The evaluator's run of a code and the machine's. -/
def Sim (P : Program) (E : Env) (w0 : World) (run : AFr → AH → St) (c : Code) : Prop :=
  ∀ fr H ex fr' H', run fr H = .ok (ex, fr', H') → OKc E fr.fn c → fr'.fn = fr.fn ∧ ∀ (n : Nat) (ρ : Ren) (ro : Option Nat) (a : Act) (w : World) (Q : Exit → Act → World → Prop), HR E w0 ρ H w → FR ρ ro fr a →
    (∀ e ρ' a' w', ExRel ex e → FR ρ' ro fr' a' → HR E w0 ρ' H' w' → Later ρ H ρ' H' → Q e a' w') → c.wpIn (Fw ro) n P Q a w

theorem sim_seq {x y : AFr → AH → St} {a b : Code} (h1 : Sim P E w0 x a) (h2 : Sim P E w0 y b) : Sim P E w0 (seqS x y) (.seq a b) := by
  intro fr H ex fr' H' h hok
  unfold seqS at h
  cases hx : x fr H with
  | er l => rw [hx] at h; cases h
  | ok r =>
    rw [hx] at h
    obtain ⟨ex1, fr1, H1⟩ := r
    obtain ⟨f1, s1⟩ := h1 _ _ _ _ _ hx hok.1
    cases ex1 with
    | normal =>
      obtain ⟨f2, s2⟩ := h2 _ _ _ _ _ h (by rw [f1]; exact hok.2)
      refine ⟨f2.trans f1, fun n ρ ro a w Q hh hf hk => wpIn_seq (s1 n ρ ro a w _ hh hf fun e ρ1 a1 w1 he hf1 hh1 hl1 => ?_)⟩
      cases e <;> first | (cases he; done) | skip
      exact s2 n ρ1 ro a1 w1 Q hh1 hf1 fun e ρ2 a2 w2 he2 hf2 hh2 hl2 => hk e ρ2 a2 w2 he2 hf2 hh2 (hl1.trans hl2)
    | exit id =>
      cases h
      refine ⟨f1, fun n ρ ro a w Q hh hf hk => wpIn_seq (s1 n ρ ro a w _ hh hf fun e ρ1 a1 w1 he hf1 hh1 hl1 => ?_)⟩
      cases e <;> first | (cases he; done) | exact hk _ ρ1 a1 w1 he hf1 hh1 hl1
    | ret =>
      cases h
      refine ⟨f1, fun n ρ ro a w Q hh hf hk => wpIn_seq (s1 n ρ ro a w _ hh hf fun e ρ1 a1 w1 he hf1 hh1 hl1 => ?_)⟩
      cases e <;> first | (cases he; done) | exact hk _ ρ1 a1 w1 he hf1 hh1 hl1

theorem sim_cond {x y : AFr → AH → St} {a b : Code} {c : Operand} (h1 : Sim P E w0 x a) (h2 : Sim P E w0 y b) : Sim P E w0 (condS E c x y) (.cond c a b) := by
  intro fr H ex fr' H' h hok
  unfold condS at h
  replace h := evK_ok h; obtain ⟨v, hv, h⟩ := h
  split at h
  · rename_i t
    have hc : ∀ {ρ : Ren} {ro : Option Nat} {ac : Act} {w : World}, HR E w0 ρ H w → FR ρ ro fr ac → ac.eval c = .bool t := fun {ρ ro ac w} hh hf => by
      have : Sees ρ fr.slots ac c := by cases c <;> first | trivial | exact fun v hv => hf.slot _ v hv
      exact (hv.rel' hh.gl this).inv_lit
    cases t with
    | true =>
      obtain ⟨f1, s1⟩ := h1 _ _ _ _ _ h hok.1
      exact ⟨f1, fun n ρ ro ac w Q hh hf hk => wpIn_cond_true (hc hh hf) (s1 n ρ ro ac w Q hh hf hk)⟩
    | false =>
      obtain ⟨f1, s1⟩ := h2 _ _ _ _ _ h hok.2
      exact ⟨f1, fun n ρ ro ac w Q hh hf hk => wpIn_cond_false (hc hh hf) (s1 n ρ ro ac w Q hh hf hk)⟩
  · cases h

theorem sim_block {x : AFr → AH → St} {a : Code} {id : Nat} (h1 : Sim P E w0 x a) : Sim P E w0 (blockS id x) (.block id a) := by
  intro fr H ex fr' H' h hok
  unfold blockS at h
  cases hx : x fr H with
  | er l => rw [hx] at h; cases h
  | ok r =>
    rw [hx] at h
    obtain ⟨ex1, fr1, H1⟩ := r
    obtain ⟨f1, s1⟩ := h1 _ _ _ _ _ hx hok
    cases ex1 with
    | normal =>
      cases h
      refine ⟨f1, fun n ρ ro ac w Q hh hf hk => wpIn_block (s1 n ρ ro ac w _ hh hf fun e ρ1 a1 w1 he hf1 hh1 hl1 => ?_)⟩
      cases e <;> first | (cases he; done) | exact hk _ ρ1 a1 w1 he hf1 hh1 hl1
    | ret =>
      cases h
      refine ⟨f1, fun n ρ ro ac w Q hh hf hk => wpIn_block (s1 n ρ ro ac w _ hh hf fun e ρ1 a1 w1 he hf1 hh1 hl1 => ?_)⟩
      cases e <;> first | (cases he; done) | exact hk _ ρ1 a1 w1 he hf1 hh1 hl1
    | exit j =>
      have h' : boolC (.ok (.exit j, fr1, H1)) (.ok (.normal, fr1, H1)) (Nat.beq j id) = (.ok (ex, fr', H') : St) := h
      cases hj : Nat.beq j id with
      | true =>
        rw [hj] at h'
        cases h'
        refine ⟨f1, fun n ρ ro ac w Q hh hf hk => wpIn_block (s1 n ρ ro ac w _ hh hf fun e ρ1 a1 w1 he hf1 hh1 hl1 => ?_)⟩
        cases e <;> first | (cases he; done) | skip
        rename_i j'
        have he' : j = j' := he
        subst he'
        show (if j = id then Q .normal a1 w1 else Q (.exit j) a1 w1)
        rw [if_pos (beqN hj)]
        exact hk .normal ρ1 a1 w1 trivial hf1 hh1 hl1
      | false =>
        rw [hj] at h'
        cases h'
        refine ⟨f1, fun n ρ ro ac w Q hh hf hk => wpIn_block (s1 n ρ ro ac w _ hh hf fun e ρ1 a1 w1 he hf1 hh1 hl1 => ?_)⟩
        cases e <;> first | (cases he; done) | skip
        rename_i j'
        have he' : j = j' := he
        subst he'
        show (if j = id then Q .normal a1 w1 else Q (.exit j) a1 w1)
        rw [if_neg (fun e => by rw [← Nat.beq_eq, hj] at e; cases e)]
        exact hk (.exit j) ρ1 a1 w1 rfl hf1 hh1 hl1

theorem exists_least {p : Nat → Prop} (h : ∃ k, p k) : ∃ k, p k ∧ ∀ j, p j → k ≤ j := by
  obtain ⟨k, hk⟩ := h
  induction k using Nat.strongRecOn with
  | _ k ih =>
    by_cases he : ∃ j, j < k ∧ p j
    · obtain ⟨j, h1, h2⟩ := he
      exact ih j h1 h2
    · refine ⟨k, hk, fun j hj => ?_⟩
      rcases Nat.lt_or_ge j k with h1 | h1
      · exact absurd ⟨j, h1, hj⟩ he
      · exact h1
open Classical in
/-- A loop with something that counts down. -/
theorem wpIn_loop_down {F : Fence} {n : Nat} {c : Code} {Q : Exit → Act → World → Prop} {a : Act} {w : World} (I : Nat → Act → World → Prop) {k0 : Nat} (h0 : I k0 a w)
    (round : ∀ k a w, I k a w → c.wpIn F n P (Exit.then (fun a' w' => ∃ k', k' < k ∧ I k' a' w') Q) a w) : (Code.loop c).wpIn F n P Q a w := by
  refine wpIn_loop (fun a w => ∃ k, I k a w) (fun a w => if h : ∃ k, I k a w then Classical.choose (exists_least h) else 0) ⟨k0, h0⟩ fun a w hI => ?_
  obtain ⟨h1, h2⟩ := Classical.choose_spec (exists_least hI)
  refine Code.wpIn_mono (fun e a' w' hq => ?_) (round _ a w h1)
  cases e <;> first | exact hq | skip
  obtain ⟨k', hk', hI'⟩ := hq
  have hex : ∃ k, I k a' w' := ⟨k', hI'⟩
  refine ⟨hex, ?_⟩
  rw [dif_pos hI, dif_pos hex]
  exact Nat.lt_of_le_of_lt ((Classical.choose_spec (exists_least hex)).2 k' hI') hk'

/-- The evaluator's loop, so many rounds at most. -/
noncomputable def loopN (x : AFr → AH → St) (k : Nat) : AFr → AH → St :=
  natR (α := AFr) (β := AH → St) (fun fr _ => .er [fr.fn, 130]) (fun _ ih fr H => match x fr H with
    | .er l => .er l
    | .ok r => match r with
      | (.normal, fr', H') => ih fr' H'
      | r => .ok r) k
theorem loopN_succ {x : AFr → AH → St} {k : Nat} {fr : AFr} {H : AH} {q : AEx × AFr × AH} (h : loopN x (k + 1) fr H = .ok q) :
    ∃ ex fr1 H1, x fr H = .ok (ex, fr1, H1) ∧ ((ex = .normal ∧ loopN x k fr1 H1 = .ok q) ∨ (ex ≠ .normal ∧ q = (ex, fr1, H1))) := by
  have h' : (match x fr H with
    | .er l => .er l
    | .ok r => match r with
      | (.normal, fr', H') => loopN x k fr' H'
      | r => .ok r) = (.ok q : St) := h
  cases hx : x fr H with
  | er l => rw [hx] at h'; cases h'
  | ok r =>
    rw [hx] at h'
    obtain ⟨ex, fr1, H1⟩ := r
    refine ⟨ex, fr1, H1, rfl, ?_⟩
    cases ex with
    | normal => exact .inl ⟨rfl, h'⟩
    | exit j => cases h'; exact .inr ⟨by simp, rfl⟩
    | ret => cases h'; exact .inr ⟨by simp, rfl⟩

theorem sim_loop {x : AFr → AH → St} {c : Code} (h1 : Sim P E w0 x c) : Sim P E w0 (loopS E x) (.loop c) := by
  intro fr H ex fr' H' h hok
  have h : loopN x E.lim fr H = .ok (ex, fr', H') := h
  generalize E.lim = k at h
  have hfn : ∀ k fr H, loopN x k fr H = .ok (ex, fr', H') → OKc E fr.fn c → fr'.fn = fr.fn := by
    intro k
    induction k with
    | zero => intro fr H h; cases h
    | succ k ih =>
      intro fr H h hok
      obtain ⟨ex1, fr1, H1, hx, hcase⟩ := loopN_succ h
      obtain ⟨f1, _⟩ := h1 _ _ _ _ _ hx hok
      rcases hcase with ⟨_, h2⟩ | ⟨_, h2⟩
      · exact (ih fr1 H1 h2 (by rw [f1]; exact hok)).trans f1
      · cases h2; exact f1
  refine ⟨hfn k fr H h hok, fun n ρ ro ac w Q hh hf hk => ?_⟩
  refine wpIn_loop_down (fun k a w => ∃ fr1 H1 ρ1, loopN x k fr1 H1 = .ok (ex, fr', H') ∧ fr1.fn = fr.fn ∧ HR E w0 ρ1 H1 w ∧ FR ρ1 ro fr1 a ∧ Later ρ H ρ1 H1) (k0 := k) ⟨fr, H, ρ, h, rfl, hh, hf, Later.refl _ _⟩ ?_
  rintro k a w ⟨fr1, H1, ρ1, hl, hf1, hh1, hfr1, hlat⟩
  cases k with
  | zero => cases hl
  | succ k =>
    obtain ⟨ex2, fr2, H2, hx, hcase⟩ := loopN_succ hl
    obtain ⟨f2, s2⟩ := h1 _ _ _ _ _ hx (by rw [hf1]; exact hok)
    refine s2 n ρ1 ro a w _ hh1 hfr1 fun e ρ2 a2 w2 he hfr2 hh2 hl2 => ?_
    rcases hcase with ⟨rfl, h3⟩ | ⟨hne, h3⟩
    · cases e <;> first | (cases he; done) | skip
      exact ⟨k, by omega, fr2, H2, ρ2, h3, f2.trans hf1, hh2, hfr2, hlat.trans hl2⟩
    · cases h3
      cases ex with
      | normal => exact absurd rfl hne
      | exit j => cases e <;> first | (cases he; done) | exact hk _ ρ2 a2 w2 he hfr2 hh2 (hlat.trans hl2)
      | ret => cases e <;> first | (cases he; done) | exact hk _ ρ2 a2 w2 he hfr2 hh2 (hlat.trans hl2)

theorem sim_region (EO : EnvOK P E) (RO : RcOK P E w0 rc) {id : Nat} {ops : Array Oper} {d : Bool} : Sim P E w0 (leafS E rc (.region id ops d)) (.region id ops d) := by
  intro fr H ex fr' H' h hok
  have h : boolC (opsK E rc ops.toList ops.toList (fun fr' H' => .ok (.normal, fr', H')) fr H)
      (getK E.pl fr.fn (fun tb => getK tb id (fun pl => planK E rc ops.toList pl (fun fr' H' => .ok (.normal, fr', H')) fr H) (.er [136, fr.fn, id])) (.er [137, fr.fn])) d = (.ok (ex, fr', H') : St) := h
  cases d with
  | false =>
    rw [boolC_false] at h
    obtain ⟨fr1, H1, h1, h2, h3⟩ := opsK_sound EO RO 0 h
    cases h1
    refine ⟨h2, fun n ρ ro ac w Q hh hf hk => ?_⟩
    obtain ⟨fr1, H1, h1, _, h3⟩ := opsK_sound EO RO n h
    cases h1
    exact wpIn_region_list (h3 ρ ro ac w Q hh hf fun ρ' a' w' g1 g2 g3 => hk .normal ρ' a' w' trivial g1 g2 g3)
  | true =>
    rw [boolC_true] at h
    replace h := getK_ok h; obtain ⟨tb, htb, h⟩ := h
    replace h := getK_ok h; obtain ⟨pl, hpl, h⟩ := h
    obtain ⟨fr1, H1, h1, h2, h3⟩ := region_draw EO RO (hok tb pl htb hpl) h
    cases h1
    exact ⟨h2, fun n ρ ro ac w Q hh hf hk => h3 n id ρ ro ac w Q hh hf fun ρ' a' w' g1 g2 g3 => hk .normal ρ' a' w' trivial g1 g2 g3⟩
theorem sim_skip : Sim P E w0 (leafS E rc .skip) .skip := by
  intro fr H ex fr' H' h _
  have h : (.ok (.normal, fr, H) : St) = .ok (ex, fr', H') := h
  cases h
  exact ⟨rfl, fun n ρ ro ac w Q hh hf hk => wpIn_skip (hk .normal ρ ac w trivial hf hh (Later.refl _ _))⟩
theorem sim_ret : Sim P E w0 (leafS E rc .ret) .ret := by
  intro fr H ex fr' H' h _
  have h : (.ok (.ret, fr, H) : St) = .ok (ex, fr', H') := h
  cases h
  exact ⟨rfl, fun n ρ ro ac w Q hh hf hk => wpIn_ret (hk .ret ρ ac w trivial hf hh (Later.refl _ _))⟩
theorem sim_exit {id : Nat} : Sim P E w0 (leafS E rc (.exit id)) (.exit id) := by
  intro fr H ex fr' H' h _
  have h : (.ok (.exit id, fr, H) : St) = .ok (ex, fr', H') := h
  cases h
  exact ⟨rfl, fun n ρ ro ac w Q hh hf hk => wpIn_exit (hk (.exit id) ρ ac w rfl hf hh (Later.refl _ _))⟩
end
end Go.Proofs.YtclljjfkaljdnaaGreatDoor
