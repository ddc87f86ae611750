/- Symbolic runs: what is to be done, rewritten step by step. No program in sight. Symbolic runs: values, cells, scalars. No program in sight. From the calculus to the machine; closed runs as contracts. No program in sight. Symbolic runs: comparisons, cells, rows, maps. No program in sight. -/
import Derived.Test.YtclljjfkaljdnaaGreatDoorVA
namespace Go.Proofs.YtclljjfkaljdnaaGreatDoor
open Go.RowKit

@[simp] theorem Tr.set_64 {α : Type} {t : Tr α} {k : Nat} {v : Option α} : (t.set 64 k v).isSome = true ↔ k + 1 < 18446744073709551616 := by
  constructor
  · have key : ∀ (f : Nat) (t : Tr α) (k : Nat), (t.set f k v).isSome = true → k + 1 < 2 ^ f := by
      intro f
      induction f with
      | zero => intro t k h; cases h
      | succ f ih =>
        intro t k h
        have e : 2 ^ (f + 1) = 2 * 2 ^ f := by rw [Nat.pow_succ]; omega
        have hp : 0 < 2 ^ f := Nat.two_pow_pos f
        cases k with
        | zero => omega
        | succ k =>
          simp only [Tr.set] at h
          by_cases hk : k % 2 = 0
          · simp only [hk, if_true, Option.isSome_map] at h
            have := ih _ _ h
            omega
          · simp only [hk, if_false, Option.isSome_map] at h
            have := ih _ _ h
            omega
    exact key 64 t k
  · intro h
    exact Tr.set_is h

section
variable {E : Env} {k : List Kon} {fr : AFr} {H : AH} {Q : AEx → AFr → AH → Prop}
theorem wantedK_inv {β : Type} {fr : AFr} {all : List Oper} {g : Option (Nat × Bool)} {yes no : Unit → R β} {q : β} (h : wantedK fr all g yes no = .ok q) : ∃ w, wanted fr all g = some w := by
  unfold wantedK at h
  unfold wanted
  cases g with
  | none => exact ⟨true, rfl⟩
  | some p =>
    obtain ⟨j, b⟩ := p
    dsimp only at h ⊢
    rw [nthK_get] at h
    cases ho : all[j]? with
    | none => rw [ho] at h; cases h
    | some o =>
      rw [ho] at h
      dsimp only at h ⊢
      cases hd : o.dst with
      | none => rw [hd] at h; cases h
      | some t =>
        rw [hd] at h
        dsimp only at h ⊢
        rw [getK_eq] at h
        cases hs : fr.slots.get t with
        | none => rw [hs] at h; cases h
        | some v => split <;> simp_all
theorem dstK_inv {β : Type} {d : Option Tmp} {v : AV} {kk : AFr → R β} {q : β} (h : dstK fr d v kk = .ok q) (hq : ∀ fr', kk fr' = .ok q → M E k fr' H Q) : MD E d v k fr H Q := by
  unfold dstK at h
  unfold MD
  cases d with
  | none => exact hq _ h
  | some t =>
    obtain ⟨s, n, m, r, f⟩ := fr
    dsimp only at h ⊢
    cases hb : Nat.blt t n with
    | false => rw [hb] at h; cases h
    | true =>
      rw [hb] at h
      have h' : setK 64 s t (some v) (fun s' => kk ⟨s', n, m, r, f⟩) (.er [121]) = .ok q := h
      rw [setK_eq] at h'
      have hlt : t < n := by simpa [Nat.blt_eq] using hb
      cases hs : s.set 64 t (some v) with
      | none => rw [hs] at h'; cases h'
      | some s' =>
        have hi : (s.set 64 t (some v)).isSome = true := by rw [hs]; rfl
        rw [Tr.set_is_put hi] at h'
        exact ⟨hlt, rfl, hq _ h'⟩
theorem MOp_inv {n : Nat} {all : List Oper} {o : Oper} {β : Type} {kk : AFr → AH → R β} {q : β} (hK : ∀ fr1 H1, kk fr1 H1 = .ok q → M E k fr1 H1 Q) (h : operK (E.at n) (runAt E n) fr all o H kk = .ok q) : MOp E all o k fr H Q := by
  unfold operK at h
  obtain ⟨w, hw⟩ := wantedK_inv h
  rw [wantedK_of hw] at h
  refine ⟨w, hw, ?_, ?_⟩
  · intro e
    rw [e, if_pos rfl, opK_at] at h
    unfold MO
    cases hr : opK E fr.slots o.op H with
    | er l => rw [hr] at h; cases h
    | ok r =>
      rw [hr] at h
      cases r with
      | val v H' => exact dstK_inv h fun fr' h' => hK _ _ h'
      | call f args H' =>
        dsimp only at h
        cases hc : runAt E n (.call f args) H' with
        | er l => rw [hc] at h; cases h
        | ok p => rw [hc] at h; obtain ⟨v, H''⟩ := p; exact ⟨n, v, H'', hc, dstK_inv h fun fr' h' => hK _ _ h'⟩
      | round f args H' =>
        dsimp only at h
        cases hc : runAt E n (.round f args) H' with
        | er l => rw [hc] at h; cases h
        | ok p => rw [hc] at h; obtain ⟨v, H''⟩ := p; exact ⟨n, v, H'', hc, dstK_inv h fun fr' h' => hK _ _ h'⟩
  · intro e
    rw [e, if_neg (by simp)] at h
    exact dstK_inv h fun fr' h' => hK _ _ h'
theorem M_ops_cons' {all l : List Oper} {o : Oper} (h : M E (.ops all (o :: l) :: k) fr H Q) : MOp E all o (.ops all l :: k) fr H Q := by
  obtain ⟨n, ex, fr', H', h1, h2⟩ := h
  simp only [evalK] at h1
  have h1' : operK (E.at n) (runAt E n) fr all o H (fun fr' H' => opsK (E.at n) (runAt E n) all l (fun fr' H' => evalK (E.at n) (runAt E n) k .normal fr' H') fr' H') = .ok (ex, fr', H') := h1
  have hK : ∀ fr1 H1, opsK (E.at n) (runAt E n) all l (fun fr' H' => evalK (E.at n) (runAt E n) k .normal fr' H') fr1 H1 = .ok (ex, fr', H') → M E (.ops all l :: k) fr1 H1 Q :=
    fun fr1 H1 h => ⟨n, ex, fr', H', by simp only [evalK]; exact h, h2⟩
  exact MOp_inv hK h1'
@[simp] theorem s_ops_cons {all l : List Oper} {o : Oper} : M E (.ops all (o :: l) :: k) fr H Q ↔ MOp E all o (.ops all l :: k) fr H Q := ⟨M_ops_cons', M_ops_cons⟩
@[simp] theorem s_ops_nil {all : List Oper} : M E (.ops all [] :: k) fr H Q ↔ M E k fr H Q := Iff.rfl
@[simp] theorem s_plan_nil {all : List Oper} : M E (.plan all [] :: k) fr H Q ↔ M E k fr H Q := Iff.rfl
@[simp] theorem s_plan_op {all : List Oper} {l : List PStep} {i : Nat} : M E (.plan all (.op i :: l) :: k) fr H Q ↔ ∃ o, all[i]? = some o ∧ MOp E all o (.plan all l :: k) fr H Q := by
  refine ⟨?_, fun ⟨o, ho, h⟩ => M_plan_op ho h⟩
  rintro ⟨n, ex, fr', H', h1, h2⟩
  simp only [evalK] at h1
  have h1' : nthK all i (fun o => operK (E.at n) (runAt E n) fr all o H (fun fr' H' => planK (E.at n) (runAt E n) all l (fun fr' H' => evalK (E.at n) (runAt E n) k .normal fr' H') fr' H')) (.er [127]) = .ok (ex, fr', H') := h1
  rw [nthK_get] at h1'
  cases ho : all[i]? with
  | none => rw [ho] at h1'; cases h1'
  | some o =>
    rw [ho] at h1'
    exact ⟨o, rfl, MOp_inv (fun fr1 H1 h => ⟨n, ex, fr', H', by simp only [evalK]; exact h, h2⟩) h1'⟩
@[simp] theorem s_plan_wr {all : List Oper} {l : List PStep} {i : Nat} {re : List Nat} : M E (.plan all (.wr i re :: l) :: k) fr H Q ↔ ∃ o, all[i]? = some o ∧ MOp E all o (.again all re :: .plan all l :: k) fr H Q := by
  refine ⟨?_, fun ⟨o, ho, h⟩ => M_plan_wr ho h⟩
  rintro ⟨n, ex, fr', H', h1, h2⟩
  simp only [evalK] at h1
  have h1' : nthK all i (fun o => operK (E.at n) (runAt E n) fr all o H (fun fr' H' => againL (E.at n) fr' all re H' fun _ => planK (E.at n) (runAt E n) all l (fun fr' H' => evalK (E.at n) (runAt E n) k .normal fr' H') fr' H')) (.er [128]) = .ok (ex, fr', H') := h1
  rw [nthK_get] at h1'
  cases ho : all[i]? with
  | none => rw [ho] at h1'; cases h1'
  | some o =>
    rw [ho] at h1'
    exact ⟨o, rfl, MOp_inv (fun fr1 H1 h => ⟨n, ex, fr', H', by simp only [evalK]; exact h, h2⟩) h1'⟩
@[simp] theorem s_again_nil {all : List Oper} : M E (.again all [] :: k) fr H Q ↔ M E k fr H Q := Iff.rfl
theorem s_again_cons {all : List Oper} {i : Nat} {l : List Nat} (h : ∃ o w, all[i]? = some o ∧ wanted fr all o.guard = some w ∧ (w = true → Same1 E fr o H) ∧ M E (.again all l :: k) fr H Q) : M E (.again all (i :: l) :: k) fr H Q := by
  obtain ⟨o, w, h1, h2, h3, h4⟩ := h; exact M_again_cons h1 h2 h3 h4
theorem evK_inv {β : Type} {s : Tr AV} {x : Operand} {kk : AV → R β} {q : β} (h : evK E s x kk = .ok q) : ∃ v, evV E s x = some v ∧ kk v = .ok q := by
  cases x with
  | tmp t =>
    have h' : getK s t kk (.er [7, t]) = .ok q := h
    rw [getK_eq] at h'
    show ∃ v, s.get t = some v ∧ _
    cases hs : s.get t with
    | none => rw [hs] at h'; cases h'
    | some v => rw [hs] at h'; exact ⟨v, rfl, h'⟩
  | const c => exact ⟨_, rfl, by rw [← evK_evV (E := E) (s := s) (x := .const c) (k := kk) rfl]; exact h⟩
  | global g =>
    have h' : getK E.gl g (fun id => kk (.ptr id 0)) (.er [8, g]) = .ok q := h
    rw [getK_eq] at h'
    show ∃ v, (E.gl.get g).map _ = some v ∧ _
    cases hs : E.gl.get g with
    | none => rw [hs] at h'; cases h'
    | some v => rw [hs] at h'; exact ⟨_, rfl, h'⟩
  | func f => exact ⟨_, rfl, h⟩
@[simp] theorem s_cond {x : Operand} {a b : Code} : M E (.code (.cond x a b) :: k) fr H Q ↔ ∃ c, evV E fr.slots x = some (.lit (.bool c)) ∧ (c = true → M E (.code a :: k) fr H Q) ∧ (c = false → M E (.code b :: k) fr H Q) := by
  refine ⟨?_, fun ⟨c, h1, h2, h3⟩ => M_cond h1 h2 h3⟩
  rintro ⟨n, ex, fr', H', h1, h2⟩
  simp only [evalK] at h1
  cases hc : codeS (E.at n) (runAt E n) (.cond x a b) fr H with
  | er l => rw [hc] at h1; cases h1
  | ok r =>
    have hc' : evK (E.at n) fr.slots x (fun v => match v with
      | .lit (.bool c) => boolC (codeS (E.at n) (runAt E n) b fr H) (codeS (E.at n) (runAt E n) a fr H) c
      | _ => .er [129]) = .ok r := hc
    rw [evK_at] at hc'
    obtain ⟨v, h3, h4⟩ := evK_inv hc'
    split at h4
    · rename_i c
      refine ⟨c, h3, fun e => ⟨n, ex, fr', H', ?_, h2⟩, fun e => ⟨n, ex, fr', H', ?_, h2⟩⟩
      · subst e
        simp only [evalK]
        have h5 : codeS (E.at n) (runAt E n) a fr H = .ok r := h4
        rw [h5]; rw [hc] at h1; exact h1
      · subst e
        simp only [evalK]
        have h5 : codeS (E.at n) (runAt E n) b fr H = .ok r := h4
        rw [h5]; rw [hc] at h1; exact h1
    · cases h4
theorem dstK_det {β : Type} {fr : AFr} {d : Option Tmp} {v : AV} {kk : AFr → R β} {q : β} (h : dstK fr d v kk = .ok q) : ∃ fr', kk fr' = .ok q ∧ ∀ {γ : Type} (kk' : AFr → R γ), dstK fr d v kk' = kk' fr' := by
  unfold dstK at h ⊢
  cases d with
  | none => exact ⟨_, h, fun _ => rfl⟩
  | some t =>
    obtain ⟨s, n, m, r, f⟩ := fr
    dsimp only at h ⊢
    cases hb : Nat.blt t n with
    | false => rw [hb] at h; cases h
    | true =>
      rw [hb] at h
      have h' : setK 64 s t (some v) (fun s' => kk ⟨s', n, m, r, f⟩) (.er [121]) = .ok q := h
      rw [setK_eq] at h'
      cases hs : s.set 64 t (some v) with
      | none => rw [hs] at h'; cases h'
      | some s' =>
        rw [hs] at h'
        refine ⟨_, h', fun kk' => ?_⟩
        show setK 64 s t (some v) (fun s' => kk' ⟨s', n, m, r, f⟩) (.er [121]) = _
        rw [setK_eq, hs]
theorem operK_det {β : Type} {F : Env} {rc : Go'} {all : List Oper} {o : Oper} {kk : AFr → AH → R β} {q : β} {fr : AFr} {H : AH} (h : operK F rc fr all o H kk = .ok q) :
    ∃ fr' H', kk fr' H' = .ok q ∧ ∀ {γ : Type} (kk' : AFr → AH → R γ), operK F rc fr all o H kk' = kk' fr' H' := by
  unfold operK at h
  obtain ⟨w, hw⟩ := wantedK_inv h
  rw [wantedK_of hw] at h
  have e : ∀ {γ : Type} (kk' : AFr → AH → R γ), operK F rc fr all o H kk' = if w = true then (match opK F fr.slots o.op H with
     | .er l => .er (fr.fn :: l)
     | .ok r => match r with
       | .val v H' => dstK fr o.dst v fun fr' => kk' fr' H'
       | .call f args H' => (match rc (.call f args) H' with
         | .ok p => match p with | (v, H'') => dstK fr o.dst v fun fr' => kk' fr' H''
         | .er l => .er (fr.fn :: l))
       | .round l args H' => (match rc (.round l args) H' with
         | .ok p => match p with | (v, H'') => dstK fr o.dst v fun fr' => kk' fr' H''
         | .er l => .er (fr.fn :: l))) else dstK fr o.dst undefA fun fr' => kk' fr' H := by
    intro γ kk'
    unfold operK
    rw [wantedK_of hw]
    rfl
  cases w with
  | false =>
    rw [if_neg (by simp)] at h
    obtain ⟨fr', h1, h2⟩ := dstK_det h
    refine ⟨fr', H, h1, fun kk' => ?_⟩
    rw [e, if_neg (by simp)]; exact h2 _
  | true =>
    rw [if_pos rfl] at h
    cases hr : opK F fr.slots o.op H with
    | er l => rw [hr] at h; cases h
    | ok r =>
      rw [hr] at h
      cases r with
      | val v H' =>
        obtain ⟨fr', h1, h2⟩ := dstK_det h
        refine ⟨fr', H', h1, fun kk' => ?_⟩
        rw [e, if_pos rfl, hr]; exact h2 _
      | call f args H' =>
        dsimp only at h
        cases hc : rc (.call f args) H' with
        | er l => rw [hc] at h; cases h
        | ok p =>
          rw [hc] at h
          obtain ⟨v, H''⟩ := p
          obtain ⟨fr', h1, h2⟩ := dstK_det h
          refine ⟨fr', H'', h1, fun kk' => ?_⟩
          rw [e, if_pos rfl, hr]; dsimp only; rw [hc]; exact h2 _
      | round f args H' =>
        dsimp only at h
        cases hc : rc (.round f args) H' with
        | er l => rw [hc] at h; cases h
        | ok p =>
          rw [hc] at h
          obtain ⟨v, H''⟩ := p
          obtain ⟨fr', h1, h2⟩ := dstK_det h
          refine ⟨fr', H'', h1, fun kk' => ?_⟩
          rw [e, if_pos rfl, hr]; dsimp only; rw [hc]; exact h2 _
theorem opsK_det {β : Type} {F : Env} {rc : Go'} {all : List Oper} : ∀ {l : List Oper} {kk : AFr → AH → R β} {q : β} {fr : AFr} {H : AH}, opsK F rc all l kk fr H = .ok q →
    ∃ fr' H', kk fr' H' = .ok q ∧ ∀ {γ : Type} (kk' : AFr → AH → R γ), opsK F rc all l kk' fr H = kk' fr' H'
  | [], kk, q, fr, H, h => ⟨fr, H, h, fun _ => rfl⟩
  | o :: l, kk, q, fr, H, h => by
    have h' : operK F rc fr all o H (fun fr' H' => opsK F rc all l kk fr' H') = .ok q := h
    obtain ⟨fr1, H1, h1, h2⟩ := operK_det h'
    obtain ⟨fr2, H2, h3, h4⟩ := opsK_det h1
    refine ⟨fr2, H2, h3, fun kk' => ?_⟩
    show operK F rc fr all o H (fun fr' H' => opsK F rc all l kk' fr' H') = _
    rw [h2, h4]
theorem againL_det {β : Type} {F : Env} {all : List Oper} {fr : AFr} {H : AH} : ∀ {l : List Nat} {kk : Unit → R β} {q : β}, againL F fr all l H kk = .ok q → kk () = .ok q ∧ ∀ {γ : Type} (kk' : Unit → R γ), againL F fr all l H kk' = kk' ()
  | [], kk, q, h => ⟨h, fun _ => rfl⟩
  | i :: l, kk, q, h => by
    have h' : againK F fr all i H (fun _ => againL F fr all l H kk) = .ok q := h
    have key : againL F fr all l H kk = .ok q ∧ ∀ {γ : Type} (kk' : Unit → R γ), againK F fr all i H kk' = kk' () := by
      unfold againK at h' ⊢
      rw [nthK_get] at h'
      cases ho : all[i]? with
      | none => rw [ho] at h'; cases h'
      | some o =>
        rw [ho] at h'
        dsimp only at h'
        obtain ⟨w, hw⟩ := wantedK_inv h'
        rw [wantedK_of hw] at h'
        cases w with
        | false =>
          rw [if_neg (by simp)] at h'
          refine ⟨h', fun kk' => ?_⟩
          rw [nthK_get, ho]; dsimp only; rw [wantedK_of hw, if_neg (by simp)]
        | true =>
          rw [if_pos rfl] at h'
          cases hr : opK F fr.slots o.op H with
          | er l => rw [hr] at h'; cases h'
          | ok r =>
            rw [hr] at h'
            cases r with
            | call f args H' => cases h'
            | round f args H' => cases h'
            | val v H' =>
              dsimp only at h'
              cases hd : o.dst with
              | none =>
                rw [hd] at h'
                refine ⟨h', fun kk' => ?_⟩
                rw [nthK_get, ho]; dsimp only; rw [wantedK_of hw, if_pos rfl, hr]; dsimp only; rw [hd]
              | some t =>
                rw [hd] at h'
                dsimp only at h'
                rw [getK_eq] at h'
                cases hg : fr.slots.get t with
                | none => rw [hg] at h'; cases h'
                | some u =>
                  rw [hg] at h'
                  dsimp only at h'
                  cases hb : eqA u v with
                  | false => rw [hb] at h'; cases h'
                  | true =>
                    rw [hb] at h'
                    refine ⟨h', fun kk' => ?_⟩
                    rw [nthK_get, ho]; dsimp only; rw [wantedK_of hw, if_pos rfl, hr]; dsimp only; rw [hd]; dsimp only; rw [getK_eq, hg]; dsimp only; rw [hb]; rfl
    obtain ⟨h1, h2⟩ := key
    obtain ⟨h3, h4⟩ := againL_det h1
    refine ⟨h3, fun kk' => ?_⟩
    show againK F fr all i H (fun _ => againL F fr all l H kk') = _
    rw [h2, h4]
theorem planK_det {β : Type} {F : Env} {rc : Go'} {all : List Oper} : ∀ {l : List PStep} {kk : AFr → AH → R β} {q : β} {fr : AFr} {H : AH}, planK F rc all l kk fr H = .ok q →
    ∃ fr' H', kk fr' H' = .ok q ∧ ∀ {γ : Type} (kk' : AFr → AH → R γ), planK F rc all l kk' fr H = kk' fr' H'
  | [], kk, q, fr, H, h => ⟨fr, H, h, fun _ => rfl⟩
  | .op i :: l, kk, q, fr, H, h => by
    have h' : nthK all i (fun o => operK F rc fr all o H (fun fr' H' => planK F rc all l kk fr' H')) (.er [127]) = .ok q := h
    rw [nthK_get] at h'
    cases ho : all[i]? with
    | none => rw [ho] at h'; cases h'
    | some o =>
      rw [ho] at h'
      obtain ⟨fr1, H1, h1, h2⟩ := operK_det h'
      obtain ⟨fr2, H2, h3, h4⟩ := planK_det h1
      refine ⟨fr2, H2, h3, fun kk' => ?_⟩
      show nthK all i (fun o => operK F rc fr all o H (fun fr' H' => planK F rc all l kk' fr' H')) (.er [127]) = _
      rw [nthK_get, ho]; dsimp only; rw [h2, h4]
  | .wr i re :: l, kk, q, fr, H, h => by
    have h' : nthK all i (fun o => operK F rc fr all o H (fun fr' H' => againL F fr' all re H' fun _ => planK F rc all l kk fr' H')) (.er [128]) = .ok q := h
    rw [nthK_get] at h'
    cases ho : all[i]? with
    | none => rw [ho] at h'; cases h'
    | some o =>
      rw [ho] at h'
      obtain ⟨fr1, H1, h1, h2⟩ := operK_det h'
      obtain ⟨h3, h4⟩ := againL_det h1
      obtain ⟨fr2, H2, h5, h6⟩ := planK_det h3
      refine ⟨fr2, H2, h5, fun kk' => ?_⟩
      show nthK all i (fun o => operK F rc fr all o H (fun fr' H' => againL F fr' all re H' fun _ => planK F rc all l kk' fr' H')) (.er [128]) = _
      rw [nthK_get, ho]; dsimp only; rw [h2, h4, h6]
@[simp] theorem s_region_f {id : Nat} {ops : Array Oper} : M E (.code (.region id ops false) :: k) fr H Q ↔ M E (.ops ops.toList ops.toList :: k) fr H Q := by
  refine ⟨?_, M_region_f⟩
  rintro ⟨n, ex, fr', H', h1, h2⟩
  simp only [evalK] at h1
  cases hc : codeS (E.at n) (runAt E n) (.region id ops false) fr H with
  | er l => rw [hc] at h1; cases h1
  | ok r =>
    rw [hc] at h1
    have hc' : opsK (E.at n) (runAt E n) ops.toList ops.toList (fun fr' H' => .ok (AEx.normal, fr', H')) fr H = .ok r := hc
    obtain ⟨fr1, H1, h3, h4⟩ := opsK_det hc'
    cases h3
    exact ⟨n, ex, fr', H', by simp only [evalK]; rw [h4]; exact h1, h2⟩
@[simp] theorem s_region_t {id : Nat} {ops : Array Oper} : M E (.code (.region id ops true) :: k) fr H Q ↔ ∃ pl, (E.pl.get fr.fn).bind (·.get id) = some pl ∧ M E (.plan ops.toList pl :: k) fr H Q := by
  refine ⟨?_, fun ⟨pl, h1, h2⟩ => M_region_t h1 h2⟩
  rintro ⟨n, ex, fr', H', h1, h2⟩
  simp only [evalK] at h1
  cases hc : codeS (E.at n) (runAt E n) (.region id ops true) fr H with
  | er l => rw [hc] at h1; cases h1
  | ok r =>
    rw [hc] at h1
    have hc' : getK (E.at n).pl fr.fn (fun tb => getK tb id (fun pl => planK (E.at n) (runAt E n) ops.toList pl (fun fr' H' => .ok (AEx.normal, fr', H')) fr H) (.er [136, fr.fn, id])) (.er [137, fr.fn]) = .ok r := hc
    rw [getK_eq] at hc'
    cases h5 : E.pl.get fr.fn with
    | none =>
      have e : (E.at n).pl.get fr.fn = none := h5
      rw [e] at hc'; cases hc'
    | some tb =>
      have e : (E.at n).pl.get fr.fn = some tb := h5
      rw [e] at hc'
      dsimp only at hc'
      rw [getK_eq] at hc'
      cases h6 : tb.get id with
      | none => rw [h6] at hc'; cases hc'
      | some pl =>
        rw [h6] at hc'
        obtain ⟨fr1, H1, h3, h4⟩ := planK_det hc'
        cases h3
        refine ⟨pl, h6, n, ex, fr', H', ?_, h2⟩
        simp only [evalK]; rw [h4]; exact h1
@[simp] theorem s_nil : M E [] fr H Q ↔ Q .normal fr H := M_nil
@[simp] theorem s_skip : M E (.code .skip :: k) fr H Q ↔ M E k fr H Q := M_skip
@[simp] theorem s_seq {a b : Code} : M E (.code (.seq a b) :: k) fr H Q ↔ M E (.code a :: .code b :: k) fr H Q := M_seq
@[simp] theorem s_block {id : Nat} {a : Code} : M E (.code (.block id a) :: k) fr H Q ↔ M E (.code a :: .blk id :: k) fr H Q := M_block
@[simp] theorem s_blk {id : Nat} : M E (.blk id :: k) fr H Q ↔ M E k fr H Q := M_blk
@[simp] theorem s_ret : M E (.code .ret :: k) fr H Q ↔ MX E k .ret fr H Q := M_ret
@[simp] theorem s_exit {j : Nat} : M E (.code (.exit j) :: k) fr H Q ↔ MX E k (.exit j) fr H Q := M_exit
@[simp] theorem x_nil {ex : AEx} : MX E [] ex fr H Q ↔ Q ex fr H := MX_nil
@[simp] theorem x_ret {x : Kon} : MX E (x :: k) .ret fr H Q ↔ MX E k .ret fr H Q := MX_ret
@[simp] theorem x_code {j : Nat} {c : Code} : MX E (.code c :: k) (.exit j) fr H Q ↔ MX E k (.exit j) fr H Q := MX_exit_code
@[simp] theorem x_ops {j : Nat} {a l : List Oper} : MX E (.ops a l :: k) (.exit j) fr H Q ↔ MX E k (.exit j) fr H Q := MX_exit_ops
@[simp] theorem x_plan {j : Nat} {a : List Oper} {l : List PStep} : MX E (.plan a l :: k) (.exit j) fr H Q ↔ MX E k (.exit j) fr H Q := MX_exit_plan
@[simp] theorem x_again {j : Nat} {a : List Oper} {l : List Nat} : MX E (.again a l :: k) (.exit j) fr H Q ↔ MX E k (.exit j) fr H Q := MX_exit_again
@[simp] theorem x_blk {j id : Nat} : MX E (.blk id :: k) (.exit j) fr H Q ↔ if j = id then M E k fr H Q else MX E k (.exit j) fr H Q := MX_exit_blk
@[simp] theorem d_none {v : AV} : MD E none v k fr H Q ↔ M E k fr H Q := Iff.rfl
@[simp] theorem d_some {t : Tmp} {v : AV} {s : Tr AV} {n : Nat} {m : List Nat} {r : Option Nat} {f : FuncId} : MD E (some t) v k ⟨s, n, m, r, f⟩ H Q ↔ t < n ∧ (s.set 64 t (some v)).isSome = true ∧ M E k ⟨s.put t (some v), n, m, r, f⟩ H Q := Iff.rfl
@[simp] theorem o_none {d : Option Tmp} {op : Op} {ty : TypeId} {pos : String} {af : Array Edge} {all : List Oper} : MOp E all ⟨d, op, ty, pos, af, none⟩ k fr H Q ↔ MO E (opK E fr.slots op H) d k fr Q := by
  unfold MOp wanted
  simp
theorem o_some {all : List Oper} {o : Oper} {g : Nat × Bool} (_ : o.guard = some g) : MOp E all o k fr H Q ↔ ∃ w, wanted fr all o.guard = some w ∧ (w = true → MO E (opK E fr.slots o.op H) o.dst k fr Q) ∧ (w = false → MD E o.dst undefA k fr H Q) := Iff.rfl
@[simp] theorem r_er {l : List Nat} {d : Option Tmp} : MO E (.er l) d k fr Q ↔ False := Iff.rfl
@[simp] theorem r_val {v : AV} {d : Option Tmp} : MO E (val v H) d k fr Q ↔ MD E d v k fr H Q := Iff.rfl
@[simp] theorem r_ok {v : AV} {d : Option Tmp} : MO E (.ok (.val v H)) d k fr Q ↔ MD E d v k fr H Q := Iff.rfl
@[simp] theorem r_call {f : FuncId} {args : List AV} {d : Option Tmp} : MO E (.ok (.call f args H)) d k fr Q ↔ MT E (.call f args) d k fr H Q := Iff.rfl
@[simp] theorem r_round {f : Nat} {args : List AV} {d : Option Tmp} : MO E (.ok (.round f args H)) d k fr Q ↔ MT E (.round f args) d k fr H Q := Iff.rfl
@[simp] theorem r_bool {a b : R ARes} {c : Bool} {d : Option Tmp} : MO E (boolC a b c) d k fr Q ↔ (c = true → MO E b d k fr Q) ∧ (c = false → MO E a d k fr Q) := by
  cases c
  · show MO E a d k fr Q ↔ _
    simp
  · show MO E b d k fr Q ↔ _
    simp
theorem MT.step {t : Task} {d : Option Tmp} {P : AV → AH → Prop} (h : C E t H P) (hq : ∀ v H', P v H' → MD E d v k fr H' Q) : MT E t d k fr H Q := C.mono h hq
end
@[simp] theorem opK_move {E : Env} {fr : Tr AV} {H : AH} {x} : opK E fr (.move x) H = (evK E fr x fun v => val v H) := rfl
@[simp] theorem opK_assign {E : Env} {fr : Tr AV} {H : AH} {x} : opK E fr (.assign x) H = (evK E fr x fun v => val v H) := rfl
@[simp] theorem opK_pick {E : Env} {fr : Tr AV} {H : AH} {c a b} : opK E fr (.pick c a b) H = (evK E fr c fun v => match v with
    | .lit (.bool b') => boolC (evK E fr b fun v => val v H) (evK E fr a fun v => val v H) b'
    | _ => .er [102]) := rfl
@[simp] theorem opK_alloc {E : Env} {fr : Tr AV} {H : AH} {t} : opK E fr (.alloc t) H = (tiK E t fun _ s _ z => writeK .e 0 z fun t' => newK H (.cells s t' false) fun id H' => val (.ptr id 0) H') := rfl
@[simp] theorem opK_box {E : Env} {fr : Tr AV} {H : AH} {x_0 x} : opK E fr (.box x_0 x) H = (evK E fr x fun v => lenK (cellsOf v) fun n => boolC (.er [103]) (writeK .e 0 (cellsOf v) fun t' => newK H (.cells n t' false) fun id H' => val (.ptr id 0) H') (allCell (cellsOf v))) := rfl
@[simp] theorem opK_build {E : Env} {fr : Tr AV} {H : AH} {t parts} : opK E fr (.build t parts) H = (tiK E t fun d _ _ z => match d with
    | .struct _ => fillK E fr (fun i k => fieldK E t i fun off s _ => k off s) parts.toList z fun l => val (.agg l) H
    | .array n e => tiK E e fun _ s _ _ => fillK E fr (fun i k => boolC (.er [104]) (k (Nat.mul i s) s) (Nat.blt i n)) parts.toList z fun l => val (.agg l) H
    | _ => .er [105]) := rfl
@[simp] theorem opK_buildSlice {E : Env} {fr : Tr AV} {H : AH} {t n parts} : opK E fr (.buildSlice t n parts) H = (elemOf' E t fun _ _ es _ z => boolC (.er [194]) (boolC (.er [106]) (repK z es n 0 .e fun t0 => fillT E fr es n parts.toList t0 fun t' => newK H (.cells (Nat.mul n es) t' false) fun id H' => val (.sl id 0 es n n true) H') (Nat.ble (Nat.mul n es) 16777216)) (Nat.ble n 9223372036854775807)) := rfl
@[simp] theorem opK_load {E : Env} {fr : Tr AV} {H : AH} {t a} : opK E fr (.load t a) H = (evK E fr a fun a => loadK E t a H fun v => val v H) := rfl
@[simp] theorem opK_store {E : Env} {fr : Tr AV} {H : AH} {t a x} : opK E fr (.store t a x) H = (evK E fr a fun a => evK E fr x fun x => storeK E t a x H fun H' => val undefA H') := rfl
@[simp] theorem opK_nilCheck {E : Env} {fr : Tr AV} {H : AH} {x} : opK E fr (.nilCheck x) H = (evK E fr x fun v => match v with
    | .ptr _ _ => val v H
    | .fn (.func _) _ _ => val v H
    | _ => .er [107]) := rfl
@[simp] theorem opK_binOp {E : Env} {fr : Tr AV} {H : AH} {op t x y x_4} : opK E fr (.binOp op t x y x_4) H = (evK E fr x fun x => evK E fr y fun y => binK E op t x y H) := rfl
@[simp] theorem opK_unOp {E : Env} {fr : Tr AV} {H : AH} {op x_1 x} : opK E fr (.unOp op x_1 x) H = (evK E fr x fun v => match v with
    | .lit x => pureV (Op.unary op x) (fun v => valS v H) (.er [108])
    | _ => .er [109]) := rfl
@[simp] theorem opK_convert {E : Env} {fr : Tr AV} {H : AH} {src dst x} : opK E fr (.convert src dst x) H = (evK E fr x fun v => tiK E src fun _ _ _ _ => tiK E dst fun d _ _ _ => match d, v with
    | .int k, .lit (.int _ n) => pureV (Conv.intToInt k n) (fun v => valS v H) (.er [110])
    | _, _ => .er [111]) := rfl
@[simp] theorem opK_makeFunc {E : Env} {fr : Tr AV} {H : AH} {f first captured} : opK E fr (.makeFunc f first captured) H = (match f with
    | .func _ => mapK (evK E fr) first.toList fun a => mapK (evK E fr) captured.toList fun b => val (.fn f a b) H
    | _ => .er [184]) := rfl
@[simp] theorem opK_makeMap {E : Env} {fr : Tr AV} {H : AH} {t r} : opK E fr (.makeMap t r) H = (tiK E t fun d _ _ _ => match d with
    | .map kt _ => optK E fr r 0 fun _ => getK E.ky kt (fun _ => newK H (.map kt 0 []) fun id H' => val (.map id) H') (.er [193, kt])
    | _ => .er [112]) := rfl
@[simp] theorem opK_makeSlice {E : Env} {fr : Tr AV} {H : AH} {t l c} : opK E fr (.makeSlice t l c) H = (evK E fr l fun l => natK l fun l => evK E fr c fun c => natK c fun c => makeSliceK E t l c H) := rfl
@[simp] theorem opK_slice {E : Env} {fr : Tr AV} {H : AH} {t x lo hi mx} : opK E fr (.slice t x lo hi mx) H = (evK E fr x fun x => sliceK E t x lo hi mx fr H) := rfl
@[simp] theorem opK_fieldAddr {E : Env} {fr : Tr AV} {H : AH} {t x f} : opK E fr (.fieldAddr t x f) H = (evK E fr x fun v => match v with
    | .ptr id off => fieldK E t f fun o s _ => natC (.er [113]) (fun _ => forceN (Nat.add off o) fun o' => val (.ptr id o') H) s
    | _ => .er [114, t, f]) := rfl
@[simp] theorem opK_field {E : Env} {fr : Tr AV} {H : AH} {t x f} : opK E fr (.field t x f) H = (evK E fr x fun v => match v with
    | .agg l => fieldK E t f fun o s ag => partK o s ag l fun v => val v H
    | _ => .er [115]) := rfl
@[simp] theorem opK_indexAddr {E : Env} {fr : Tr AV} {H : AH} {t x i} : opK E fr (.indexAddr t x i) H = (evK E fr x fun x => evK E fr i fun i => natK i fun i => indexAddrK E t x i H) := rfl
@[simp] theorem opK_index {E : Env} {fr : Tr AV} {H : AH} {t x i} : opK E fr (.index t x i) H = (evK E fr x fun x => evK E fr i fun i => natK i fun i => indexK E t x i H) := rfl
@[simp] theorem opK_lookup {E : Env} {fr : Tr AV} {H : AH} {t m x ok} : opK E fr (.lookup t m x ok) H = (evK E fr m fun m => evK E fr x fun x => lookupK E t m x ok H) := rfl
@[simp] theorem opK_mapUpdate {E : Env} {fr : Tr AV} {H : AH} {t m x v} : opK E fr (.mapUpdate t m x v) H = (evK E fr m fun m => evK E fr x fun x => evK E fr v fun v => updateK E t m x v H) := rfl
@[simp] theorem opK_insert {E : Env} {fr : Tr AV} {H : AH} {t m x v} : opK E fr (.insert t m x v) H = (evK E fr m fun m => evK E fr x fun x => evK E fr v fun v => updateK E t m x v H) := rfl
@[simp] theorem opK_mapEntry {E : Env} {fr : Tr AV} {H : AH} {t m x} : opK E fr (.mapEntry t m x) H = (evK E fr m fun m => evK E fr x fun x => entryK E t m x H) := rfl
@[simp] theorem opK_entryStore {E : Env} {fr : Tr AV} {H : AH} {x_0 m x v} : opK E fr (.entryStore x_0 m x v) H = (evK E fr m fun m => evK E fr x fun x => evK E fr v fun v => stampK m x v H) := rfl
@[simp] theorem opK_extract {E : Env} {fr : Tr AV} {H : AH} {x i} : opK E fr (.extract x i) H = (evK E fr x fun v => match v with
    | .tup l => nthK l i (fun v => val v H) (.er [116])
    | _ => .er [117]) := rfl
@[simp] theorem opK_call {E : Env} {fr : Tr AV} {H : AH} {c} : opK E fr (.call c) H = (match c.callee with
    | .builtin b => mapK (evK E fr) c.args.toList fun args => builtinK E b c.argTypes.toList args H
    | .value f => evK E fr f fun f => mapK (evK E fr) c.args.toList fun args => callK f args H
    | _ => .er [118]) := rfl
end Go.Proofs.YtclljjfkaljdnaaGreatDoor
namespace Go.Proofs.YtclljjfkaljdnaaGreatDoor
open Go.RowKit

section
variable {E : Env} {β : Type}
@[simp] theorem k_true {a b : β} : boolC a b true = b := rfl
@[simp] theorem k_false {a b : β} : boolC a b false = a := rfl
@[simp] theorem ev_tmp {s : Tr AV} {t : Tmp} {k : AV → R β} : evK E s (.tmp t) k = match s.get t with | some v => k v | none => .er [7, t] := by
  show getK s t k (.er [7, t]) = _
  rw [getK_eq]; cases s.get t <;> rfl
@[simp] theorem ev_func {s : Tr AV} {f : FuncId} {k : AV → R β} : evK E s (.func f) k = k (.fn (.func f) [] []) := rfl
@[simp] theorem ev_const {s : Tr AV} {v : Value} {k : AV → R β} : evK E s (.const v) k = k (ofVal v) := evK_evV (x := .const v) rfl
@[simp] theorem evV_tmp {s : Tr AV} {t : Tmp} : evV E s (.tmp t) = s.get t := rfl
@[simp] theorem evV_const {s : Tr AV} {v : Value} : evV E s (.const v) = some (ofVal v) := rfl
@[simp] theorem evV_func {s : Tr AV} {f : FuncId} : evV E s (.func f) = some (.fn (.func f) [] []) := rfl
@[simp] theorem ofVal_int {k : IntKind} {n : Int} : ofVal (.int k n) = .lit (.int k n) := rfl
@[simp] theorem ofVal_bool {b : Bool} : ofVal (.bool b) = .lit (.bool b) := rfl
@[simp] theorem ofVal_string {b : ByteArray} : ofVal (.string b) = .lit (.string b) := rfl
@[simp] theorem ofVal_ptr {a : Option Addr} : ofVal (.pointer a) = .lit (.pointer a) := rfl
@[simp] theorem ofVal_slice {a : Option Addr} {n c : Nat} : ofVal (.slice a n c) = .lit (.slice a n c) := rfl
@[simp] theorem ofVal_map {a : Option Nat} : ofVal (.map a) = .lit (.map a) := rfl
@[simp] theorem ofVal_nf : ofVal .nilFunc = .lit .nilFunc := rfl
@[simp] theorem ofVal_agg {cs : Array Value} : ofVal (.agg cs) = .agg (cs.toList.map .lit) := rfl
@[simp] theorem ti_get {t : TypeId} {k : TypeDesc → Nat → Nat → List AV → R β} : tiK E t k = match E.tt.get t with | some ⟨d, s, b, z⟩ => k d s b z | none => .er [6, t] := by
  unfold tiK
  rw [getK_eq]; cases E.tt.get t <;> rfl
@[simp] theorem obj_get {H : AH} {id : Nat} {k : AO → R β} : objK H id k = match H.get id with | some o => k o | none => .er [2, id] := objK_get
@[simp] theorem upd_put {H : AH} {id : Nat} {o : Option AO} {k : AH → R β} : updK H id o k = k (H.put id o) := updK_put
@[simp] theorem new_add {H : AH} {o : AO} {k : Nat → AH → R β} : newK H o k = k H.next (H.add o) := newK_add
@[simp] theorem write_puts {t : Tr AV} {off : Nat} {l : List AV} {k : Tr AV → R β} : writeK t off l k = k (t.puts off l) := writeK_puts
@[simp] theorem len_len {α : Type} {l : List α} {k : Nat → R β} : lenK l k = k l.length := lenK_len
@[simp] theorem nth_get {α : Type} {l : List α} {n : Nat} {k : α → R β} {d : R β} : nthK l n k d = match l[n]? with | some a => k a | none => d := nthK_get
@[simp] theorem force_n {n : Nat} {k : Nat → β} : forceN n k = k n := forceN_eq n k
@[simp] theorem force_v {v : Value} {k : Value → β} : forceV v k = k v := forceV_eq v k
@[simp] theorem valS_eq {v : Value} {H : AH} : valS v H = val (.lit v) H := forceV_eq v _
@[simp] theorem map_nil {α γ : Type} {f : α → (γ → R β) → R β} {k : List γ → R β} : mapK f [] k = k [] := rfl
@[simp] theorem map_cons {α γ : Type} {f : α → (γ → R β) → R β} {a : α} {l : List α} {k : List γ → R β} : mapK f (a :: l) k = f a fun b => mapK f l fun l' => k (b :: l') := rfl
@[simp] theorem app_app {α : Type} {l m : List α} {k : List α → R β} : appK l m k = k (l ++ m) := by
  unfold appK
  induction l generalizing k with
  | nil => rfl
  | cons a l ih => rw [listR_cons]; exact ih
@[simp] theorem nk_cast {k : IntKind} {n : Nat} {kk : Nat → R β} : natK (.lit (.int k (n : Int))) kk = kk n := rfl
@[simp] theorem nk_lit {k : IntKind} {n : Nat} {kk : Nat → R β} : natK (.lit (.int k (no_index (OfNat.ofNat n)))) kk = kk (OfNat.ofNat n) := rfl
theorem nk_nonneg {k : IntKind} {x : Int} {kk : Nat → R β} (h : 0 ≤ x) : natK (.lit (.int k x)) kk = kk x.toNat := by
  obtain ⟨n, rfl⟩ := Int.eq_ofNat_of_zero_le h
  rfl
@[simp] theorem nC_zero {z : β} {s : Nat → β} : natC z s 0 = z := rfl
@[simp] theorem nC_succ {z : β} {s : Nat → β} {n : Nat} : natC z s (n + 1) = s n := rfl
@[simp] theorem nC_lit {z : β} {s : Nat → β} {n : Nat} [NeZero n] : natC z s (no_index (OfNat.ofNat n)) = s (n - 1) := by
  cases n with
  | zero => exact absurd rfl (NeZero.ne 0)
  | succ n => rfl
@[simp] theorem nat_add {a b : Nat} : Nat.add a b = a + b := rfl
@[simp] theorem nat_mul {a b : Nat} : Nat.mul a b = a * b := rfl
@[simp] theorem nat_sub {a b : Nat} : Nat.sub a b = a - b := rfl
@[simp] theorem nat_ble {a b : Nat} : Nat.ble a b = decide (a ≤ b) := by
  rw [Bool.eq_iff_iff]; simp [Nat.ble_eq]
@[simp] theorem nat_blt {a b : Nat} : Nat.blt a b = decide (a < b) := by
  rw [Bool.eq_iff_iff]; simp [Nat.blt_eq]
@[simp] theorem nat_beq {a b : Nat} : Nat.beq a b = decide (a = b) := by
  rw [Bool.eq_iff_iff]; simp
@[simp] theorem all_nil : allCell [] = true := rfl
@[simp] theorem all_cons {v : AV} {l : List AV} : allCell (v :: l) = (isCell v && allCell l) := by
  show boolC false (allCell l) (isCell v) = _
  cases isCell v <;> rfl
@[simp] theorem cell_int {k : IntKind} {n : Int} : isCell (.lit (.int k n)) = true := rfl
@[simp] theorem cell_bool {b : Bool} : isCell (.lit (.bool b)) = true := rfl
@[simp] theorem cell_string {b : ByteArray} : isCell (.lit (.string b)) = true := rfl
@[simp] theorem cell_np {a : Option Addr} : isCell (.lit (.pointer a)) = true := rfl
@[simp] theorem cell_ns {a : Option Addr} {n c : Nat} : isCell (.lit (.slice a n c)) = true := rfl
@[simp] theorem cell_nm {a : Option Nat} : isCell (.lit (.map a)) = true := rfl
@[simp] theorem cell_ptr {id off : Nat} : isCell (.ptr id off) = true := rfl
@[simp] theorem cell_sl {a b c d e : Nat} {x : Bool} : isCell (.sl a b c d e x) = true := rfl
@[simp] theorem cell_esl : isCell .esl = true := rfl
@[simp] theorem cell_map {id : Nat} : isCell (.map id) = true := rfl
@[simp] theorem cell_fn {f : Fn} {a b : List AV} : isCell (.fn f a b) = true := rfl
@[simp] theorem cells_lit {v : Value} : cellsOf (.lit v) = [.lit v] := rfl
@[simp] theorem cells_agg {l : List AV} : cellsOf (.agg l) = l := rfl
@[simp] theorem cells_ptr {id off : Nat} : cellsOf (.ptr id off) = [.ptr id off] := rfl
@[simp] theorem cells_sl {a b c d e : Nat} {x : Bool} : cellsOf (.sl a b c d e x) = [.sl a b c d e x] := rfl
@[simp] theorem cells_esl : cellsOf .esl = [.esl] := rfl
@[simp] theorem cells_map {id : Nat} : cellsOf (.map id) = [.map id] := rfl
@[simp] theorem cells_fn {f : Fn} {a b : List AV} : cellsOf (.fn f a b) = [.fn f a b] := rfl
@[simp] theorem puts_nil {α : Type} {t : Tr α} {i : Nat} : t.puts i [] = t := rfl
@[simp] theorem puts_cons {α : Type} {t : Tr α} {i : Nat} {v : α} {l : List α} : t.puts i (v :: l) = (t.put i (some v)).puts (i + 1) l := rfl
end

/-! ### the end of a call -/
section
variable {E : Env} {β : Type} {rs : List ResultVar} {Q : AV → AH → Prop} {H : AH}
@[simp] theorem erase_nil {k : AH → R β} : eraseL [] H k = k H := rfl
@[simp] theorem erase_cons {id : Nat} {l : List Nat} {k : AH → R β} : eraseL (id :: l) H k = objK H id fun o => match o with | .deferred => updK H id none fun H' => eraseL l H' k | _ => .er [185] := rfl
@[simp] theorem get_get {α : Type} {t : Tr α} {n : Nat} {k : α → R β} {d : R β} : getK t n k d = match t.get n with | some v => k v | none => d := by rw [getK_eq]; cases t.get n <;> rfl
/-- It yields something, of which this is so. -/
def Yi {α : Type} (r : R α) (K : α → Prop) : Prop := ∃ a, r = .ok a ∧ K a
@[simp] theorem wr_ok {α : Type} {a : α} {K : α → Prop} : Yi (.ok a) K ↔ K a := ⟨fun ⟨_, h1, h2⟩ => by cases h1; exact h2, fun h => ⟨_, rfl, h⟩⟩
@[simp] theorem wr_er {α : Type} {l : List Nat} {K : α → Prop} : Yi (.er l) K ↔ False := ⟨fun ⟨_, h, _⟩ => (by cases h), False.elim⟩
@[simp] theorem wr_bool {α : Type} {a b : R α} {c : Bool} {K : α → Prop} : Yi (boolC a b c) K ↔ (c = true → Yi b K) ∧ (c = false → Yi a K) := by
  cases c
  · show Yi a K ↔ _; simp
  · show Yi b K ↔ _; simp
@[simp] theorem end_ret {fr : AFr} : CEnd E rs Q .ret fr H ↔ Yi (eraseL fr.marks H fun H2 => resK E fr.slots H2 rs fun v => .ok (v, H2)) fun p => Q p.1 p.2 := by
  unfold CEnd Yi; simp
@[simp] theorem end_normal {fr : AFr} : CEnd E rs Q .normal fr H ↔ Yi (eraseL fr.marks H fun H2 => resK E fr.slots H2 rs fun v => .ok (v, H2)) fun p => Q p.1 p.2 := by
  unfold CEnd Yi; simp
@[simp] theorem res_def {s : Tr AV} {k : AV → R β} : resK E s H rs k = mapK (fun r k => match r with
    | .tmp t => getK s t k (.er [139])
    | .cell a t => getK s a (fun p => loadK E t p H k) (.er [140])) rs fun l => match l with | [v] => k v | l => k (.tup l) := rfl
end

/-! ### scalars -/
section
variable {E : Env} {t : TypeId} {H : AH} {k : IntKind} {a b : Int}
@[simp] theorem bin_lss : binK E .lss t (.lit (.int k a)) (.lit (.int k b)) H = val (.lit (.bool (decide (a < b)))) H := by
  simp [binK, Go.binOp, Op.intCmp, pureV, pure]
@[simp] theorem bin_leq : binK E .leq t (.lit (.int k a)) (.lit (.int k b)) H = val (.lit (.bool (decide (a ≤ b)))) H := by
  simp [binK, Go.binOp, Op.intCmp, pureV, pure]
@[simp] theorem bin_gtr : binK E .gtr t (.lit (.int k a)) (.lit (.int k b)) H = val (.lit (.bool (decide (b < a)))) H := by
  simp [binK, Go.binOp, Op.intCmp, pureV, pure]
@[simp] theorem bin_geq : binK E .geq t (.lit (.int k a)) (.lit (.int k b)) H = val (.lit (.bool (decide (b ≤ a)))) H := by
  simp [binK, Go.binOp, Op.intCmp, pureV, pure]
@[simp] theorem bin_eql : binK E .eql t (.lit (.int k a)) (.lit (.int k b)) H = val (.lit (.bool (decide (a = b)))) H := by
  simp [binK, Go.binOp, Op.intCmp, pureV, pure]; rfl
@[simp] theorem bin_neq : binK E .neq t (.lit (.int k a)) (.lit (.int k b)) H = val (.lit (.bool (decide (a ≠ b)))) H := by
  simp [binK, Go.binOp, Op.intCmp, pureV, pure]; rfl
@[simp] theorem bin_add : binK E .add t (.lit (.int k a)) (.lit (.int k b)) H = val (.lit (.int k (k.wrap (a + b)))) H := by
  simp [binK, Go.binOp, Op.intArith, pureV, pure]
@[simp] theorem bin_sub : binK E .sub t (.lit (.int k a)) (.lit (.int k b)) H = val (.lit (.int k (k.wrap (a - b)))) H := by
  simp [binK, Go.binOp, Op.intArith, pureV, pure]
@[simp] theorem bin_mul : binK E .mul t (.lit (.int k a)) (.lit (.int k b)) H = val (.lit (.int k (k.wrap (a * b)))) H := by
  simp [binK, Go.binOp, Op.intArith, pureV, pure]
theorem bin_quo (h : b ≠ 0) : binK E .quo t (.lit (.int k a)) (.lit (.int k b)) H = val (.lit (.int k (k.wrap (a.tdiv b)))) H := by
  simp [binK, Go.binOp, Op.intDiv, pureV, pure, h]
theorem bin_rem (h : b ≠ 0) : binK E .rem t (.lit (.int k a)) (.lit (.int k b)) H = val (.lit (.int k (a.tmod b))) H := by
  simp [binK, Go.binOp, Op.intDiv, pureV, pure, h]
@[simp] theorem wrap_i64 {x : Int} (h1 : -9223372036854775808 ≤ x) (h2 : x ≤ 9223372036854775807) : IntKind.wrap .i64 x = x := by
  show (if (true && decide (x % 18446744073709551616 ≥ 9223372036854775808)) = true then x % 18446744073709551616 - 18446744073709551616 else x % 18446744073709551616) = x
  by_cases hx : 0 ≤ x
  · have : x % 18446744073709551616 = x := Int.emod_eq_of_lt hx (by omega)
    rw [this, if_neg (by simp; omega)]
  · have : x % 18446744073709551616 = x + 18446744073709551616 := by omega
    rw [this, if_pos (by simp; omega)]; omega
end
end Go.Proofs.YtclljjfkaljdnaaGreatDoor
namespace Go.Proofs.YtclljjfkaljdnaaGreatDoor
open Go.RowKit

theorem OKc_at {E : Env} {f : FuncId} {n : Nat} (c : Code) : OKc E f c → OKc (E.at n) f c := by
  induction c with
  | seq a b iha ihb => exact fun h => ⟨iha h.1, ihb h.2⟩
  | cond x a b iha ihb => exact fun h => ⟨iha h.1, ihb h.2⟩
  | block id a ih => exact fun h => ih h
  | loop a ih => exact fun h => ih h
  | rangeFunc f ps a b iha ihb => exact fun h => ⟨iha h.1, ihb h.2⟩
  | region id ops d => cases d <;> exact fun h => h
  | _ => exact fun h => h
theorem EnvOK.at {P : Program} {E : Env} (h : EnvOK P E) (n : Nat) : EnvOK P (E.at n) := by
  cases E
  exact ⟨h.1, h.2, h.3, h.4, h.5, fun f fn c h1 h2 => OKc_at c (h.6 f fn c h1 h2)⟩
theorem at_lim (E : Env) : E.at E.lim = E := by cases E; rfl
/-- A closed run, in continuation style, as a contract. -/
theorem C_of_run {E : Env} {β : Type} {n : Nat} {t : Task} {H : AH} {k : AV → AH → R β} {q : β} (h : goKc E n t H k = .ok q) : C E t H fun v H' => k v H' = .ok q := by
  obtain ⟨⟨v, H'⟩, h1, h2⟩ := (goK_r n t H k).out q h
  refine ⟨max E.lim n, v, H', ?_, h2⟩
  have h3 : goK (E.at E.lim) n t H = .ok (v, H') := by rw [at_lim]; exact h1
  exact goK_m (Nat.le_max_left _ _) _ _ (Nat.le_max_right _ _) _ _ _ h3
/-- What the calculus says of a call is so at the machine. -/
theorem calls_of_C {P : Program} {pl : Plans} {ky : List (Nat × KS)} {hk : List (Nat × Nat)} {tab : List Nat} {E : Env} {H : AH} {f : FuncId} {args : List AV} {args' : Array Value} {u : Value} (G : Given P pl ky)
    (hE : envK P pl ky hk (fun E => (R.ok E : R Env)) = .ok E) (hH : heapK tab (fun H => (R.ok H : R AH)) = .ok H) (h : C E (.call f args) H fun v _ => v = .lit u) (ha : ∀ ρ, RlL ρ args args'.toList)
    (w : World) (ht : TabAt w tab) (HK : ∀ E, EnvOK P E → (∀ f n, E.hk.get f = some n → (f, n) ∈ hk) → HkOK P E w) :
    Calls P f args' w fun e w' => e = .returned u ∧ Chg (fun _ => False) w w' := by
  obtain ⟨E', h1, hE', hh, hg⟩ := envK_ok G hE
  cases h1
  obtain ⟨H', h2, hst⟩ := heapK_ok hH
  cases h2
  obtain ⟨n, v, H', h3, rfl⟩ := h
  obtain ⟨ρ, hρ⟩ := hst (E.at n) w hg ht
  exact run_sound (hE'.at n) (HK (E.at n) (hE'.at n) hh) h3 hρ (ha ρ)
end Go.Proofs.YtclljjfkaljdnaaGreatDoor
namespace Go.Proofs.YtclljjfkaljdnaaGreatDoor
open Go.RowKit

section
variable {E : Env} {β : Type} {t : TypeId} {H : AH} {op : BinOp}
@[simp] theorem agg_struct {fs : Array Field} : isAggD (.struct fs) = true := rfl
@[simp] theorem agg_array {n : Nat} {e : TypeId} : isAggD (.array n e) = true := rfl
@[simp] theorem agg_int {k : IntKind} : isAggD (.int k) = false := rfl
@[simp] theorem agg_bool : isAggD .bool = false := rfl
@[simp] theorem agg_string : isAggD .string = false := rfl
@[simp] theorem agg_pointer {e : TypeId} : isAggD (.pointer e) = false := rfl
@[simp] theorem agg_slice {e : TypeId} : isAggD (.slice e) = false := rfl
@[simp] theorem agg_map {e f : TypeId} : isAggD (.map e f) = false := rfl
@[simp] theorem agg_func {a b : Array TypeId} {c : Bool} : isAggD (.func a b c) = false := rfl
@[simp] theorem neg_eql {b : Bool} {k : Value → R β} : neg1 .eql b k = k (.bool b) := rfl
@[simp] theorem neg_neq {b : Bool} {k : Value → R β} : neg1 .neq b k = k (.bool (!b)) := by cases b <;> rfl
@[simp] theorem bin_pp {a b : Option Addr} : binK E op t (.lit (.pointer a)) (.lit (.pointer b)) H = eqlK E op t (.lit (.pointer a)) (.lit (.pointer b)) fun v => valS v H := rfl
@[simp] theorem bin_ap {i o : Nat} {b : Option Addr} : binK E op t (.ptr i o) (.lit (.pointer b)) H = eqlK E op t (.ptr i o) (.lit (.pointer b)) fun v => valS v H := rfl
@[simp] theorem bin_pa {i o : Nat} {b : Option Addr} : binK E op t (.lit (.pointer b)) (.ptr i o) H = eqlK E op t (.lit (.pointer b)) (.ptr i o) fun v => valS v H := rfl
@[simp] theorem bin_ss {a b : Option Addr} {n c m d : Nat} : binK E op t (.lit (.slice a n c)) (.lit (.slice b m d)) H = eqlK E op t (.lit (.slice a n c)) (.lit (.slice b m d)) fun v => valS v H := rfl
@[simp] theorem bin_ls {i o e l c : Nat} {x : Bool} {b : Option Addr} {m d : Nat} : binK E op t (.sl i o e l c x) (.lit (.slice b m d)) H = eqlK E op t (.sl i o e l c x) (.lit (.slice b m d)) fun v => valS v H := rfl
@[simp] theorem bin_es {b : Option Addr} {m d : Nat} : binK E op t .esl (.lit (.slice b m d)) H = eqlK E op t .esl (.lit (.slice b m d)) fun v => valS v H := rfl
@[simp] theorem bin_mm {a b : Option Nat} : binK E op t (.lit (.map a)) (.lit (.map b)) H = eqlK E op t (.lit (.map a)) (.lit (.map b)) fun v => valS v H := rfl
@[simp] theorem bin_am {i : Nat} {b : Option Nat} : binK E op t (.map i) (.lit (.map b)) H = eqlK E op t (.map i) (.lit (.map b)) fun v => valS v H := rfl
@[simp] theorem bin_ff : binK E op t (.lit .nilFunc) (.lit .nilFunc) H = eqlK E op t (.lit .nilFunc) (.lit .nilFunc) fun v => valS v H := rfl
@[simp] theorem bin_fn {f : Fn} {a b : List AV} : binK E op t (.fn f a b) (.lit .nilFunc) H = eqlK E op t (.fn f a b) (.lit .nilFunc) fun v => valS v H := rfl
@[simp] theorem bin_bb {a b : Bool} : binK E op t (.lit (.bool a)) (.lit (.bool b)) H = eqlK E op t (.lit (.bool a)) (.lit (.bool b)) fun v => valS v H := rfl
@[simp] theorem bin_gg {a b : List AV} : binK E op t (.agg a) (.agg b) H = eqlK E op t (.agg a) (.agg b) fun v => valS v H := rfl
section
variable {k : Value → R β}
@[simp] theorem eql_pp : eqlK E op t (.lit (.pointer none)) (.lit (.pointer none)) k = tiK E t fun d _ _ _ => match d with | .pointer _ => neg1 op true k | _ => .er [17, t] := by
  unfold eqlK; congr 1; funext d _ _ _; cases d <;> rfl
@[simp] theorem eql_ap {i o : Nat} : eqlK E op t (.ptr i o) (.lit (.pointer none)) k = tiK E t fun d _ _ _ => match d with | .pointer _ => neg1 op false k | _ => .er [17, t] := by
  unfold eqlK; congr 1; funext d _ _ _; cases d <;> rfl
@[simp] theorem eql_pa {i o : Nat} : eqlK E op t (.lit (.pointer none)) (.ptr i o) k = tiK E t fun d _ _ _ => match d with | .pointer _ => neg1 op false k | _ => .er [17, t] := by
  unfold eqlK; congr 1; funext d _ _ _; cases d <;> rfl
@[simp] theorem eql_ss {n c m d : Nat} : eqlK E op t (.lit (.slice none n c)) (.lit (.slice none m d)) k = tiK E t fun d _ _ _ => match d with | .slice _ => neg1 op true k | _ => .er [17, t] := by
  unfold eqlK; congr 1; funext d _ _ _; cases d <;> rfl
@[simp] theorem eql_ls {i o e l c : Nat} {x : Bool} {m d : Nat} : eqlK E op t (.sl i o e l c x) (.lit (.slice none m d)) k = tiK E t fun d _ _ _ => match d with | .slice _ => neg1 op false k | _ => .er [17, t] := by
  unfold eqlK; congr 1; funext d _ _ _; cases d <;> rfl
@[simp] theorem eql_es {m d : Nat} : eqlK E op t .esl (.lit (.slice none m d)) k = tiK E t fun d _ _ _ => match d with | .slice _ => neg1 op false k | _ => .er [17, t] := by
  unfold eqlK; congr 1; funext d _ _ _; cases d <;> rfl
@[simp] theorem eql_mm : eqlK E op t (.lit (.map none)) (.lit (.map none)) k = tiK E t fun d _ _ _ => match d with | .map _ _ => neg1 op true k | _ => .er [17, t] := by
  unfold eqlK; congr 1; funext d _ _ _; cases d <;> rfl
@[simp] theorem eql_am {i : Nat} : eqlK E op t (.map i) (.lit (.map none)) k = tiK E t fun d _ _ _ => match d with | .map _ _ => neg1 op false k | _ => .er [17, t] := by
  unfold eqlK; congr 1; funext d _ _ _; cases d <;> rfl
@[simp] theorem eql_ff : eqlK E op t (.lit .nilFunc) (.lit .nilFunc) k = tiK E t fun d _ _ _ => match d with | .func _ _ _ => neg1 op true k | _ => .er [17, t] := by
  unfold eqlK; congr 1; funext d _ _ _; cases d <;> rfl
@[simp] theorem eql_fn {f : Fn} {a b : List AV} : eqlK E op t (.fn f a b) (.lit .nilFunc) k = tiK E t fun d _ _ _ => match d with | .func _ _ _ => neg1 op false k | _ => .er [17, t] := by
  unfold eqlK; congr 1; funext d _ _ _; cases d <;> rfl
@[simp] theorem eql_bb {a b : Bool} : eqlK E op t (.lit (.bool a)) (.lit (.bool b)) k = tiK E t fun d _ _ _ => match d with | .bool => neg1 op (a == b) k | _ => .er [17, t] := by
  unfold eqlK; congr 1; funext d _ _ _; cases d <;> cases a <;> cases b <;> rfl
@[simp] theorem eql_gg {a b : List AV} : eqlK E op t (.agg a) (.agg b) k = tiK E t fun d _ _ _ => boolC (.er [17, t]) (keyK E t (.agg a) fun a => keyK E t (.agg b) fun b => neg1 op (eqKV a b) k) (isAggD d) := by
  unfold eqlK; congr 1; funext d _ _ _; cases d <;> rfl
end
theorem eqB_str {a b : ByteArray} : eqB a.data.toList b.data.toList = decide (a = b) := by
  rw [eqB_eq, Bool.eq_iff_iff]
  simp only [beq_iff_eq, decide_eq_true_eq]
  constructor
  · intro h; cases a; cases b; simp_all
  · intro h; rw [h]
@[simp] theorem bin_str_eql {a b : ByteArray} : binK E .eql t (.lit (.string a)) (.lit (.string b)) H = val (.lit (.bool (decide (a = b)))) H := by
  show strOp .eql a.data.toList b.data.toList (fun v => valS v H) = _
  unfold strOp; dsimp only; rw [eqB_str, valS_eq]
@[simp] theorem bin_str_neq {a b : ByteArray} : binK E .neq t (.lit (.string a)) (.lit (.string b)) H = val (.lit (.bool (decide (a ≠ b)))) H := by
  show strOp .neq a.data.toList b.data.toList (fun v => valS v H) = _
  unfold strOp; dsimp only; rw [eqB_str, valS_eq]
  by_cases h : a = b <;> simp [h]
@[simp] theorem un_not {b : Bool} {k : Value → R β} {d : R β} : pureV (Op.unary .not (.bool b)) k d = k (.bool (!b)) := rfl
@[simp] theorem un_neg {j : IntKind} {n : Int} {k : Value → R β} {d : R β} : pureV (Op.unary .neg (.int j n)) k d = k (.int j (j.wrap (0 - n))) := rfl
@[simp] theorem min_ii {i j : IntKind} {a b : Int} {k : Value → R β} {d : R β} : pureV (Builtin.min2 (.int j a) (.int i b)) k d = k (.int j (if b < a then b else a)) := rfl
@[simp] theorem max_ii {i j : IntKind} {a b : Int} {k : Value → R β} {d : R β} : pureV (Builtin.max2 (.int j a) (.int i b)) k d = k (.int j (if b > a then b else a)) := rfl
/-- The cells read, from behind. -/
noncomputable def rdG (s : Tr AV) (off : Nat) (k : List AV → R β) : Nat → List AV → R β
  | 0, acc => k acc
  | m + 1, acc => getK s (off + m) (fun v => rdG s off k m (v :: acc)) (.er [4, off, m])
@[simp] theorem read_rdG {s : Tr AV} {off m : Nat} {k : List AV → R β} : readK s off m k = rdG s off k m [] := by
  unfold readK
  generalize ([] : List AV) = acc
  induction m generalizing acc with
  | zero => rfl
  | succ m ih => rw [natR_succ]; simp only [rdG]; congr 1; funext v; exact ih _
@[simp] theorem rdG_zero {s : Tr AV} {off : Nat} {k : List AV → R β} {acc : List AV} : rdG s off k 0 acc = k acc := rfl
@[simp] theorem rdG_lit {s : Tr AV} {off n : Nat} {k : List AV → R β} {acc : List AV} [NeZero n] : rdG s off k (no_index (OfNat.ofNat n)) acc = getK s (off + (n - 1)) (fun v => rdG s off k (n - 1) (v :: acc)) (.er [4, off, n - 1]) := by
  cases n with
  | zero => exact absurd rfl (NeZero.ne 0)
  | succ n => rfl
theorem rdG_rdT {s : Tr AV} {off m : Nat} {k : List AV → R β} {l : List AV} (h : rdT s off m = some l) : rdG s off k m [] = k l := by
  rw [← read_rdG, readK_rdT h]
attribute [simp] lenA sizeL sliceCells elemOf' appendK copyK clearK minK sliceK indexAddrK indexK makeSliceK builtinK callK lookupK updateK deleteK entryK stampK mapOf zeroA keyK fieldK loadK storeK partK optK
end
/-! ### operations under a guard -/
/-- An operation that is done if its guard says so. -/
def MG (w : Option Bool) (E : Env) (r : R ARes) (d : Option Tmp) (k : List Kon) (fr : AFr) (H : AH) (Q : AEx → AFr → AH → Prop) : Prop :=
  ∃ w', w = some w' ∧ (w' = true → MO E r d k fr Q) ∧ (w' = false → MD E d undefA k fr H Q)
section
variable {E : Env} {r : R ARes} {d : Option Tmp} {k : List Kon} {fr : AFr} {H : AH} {Q : AEx → AFr → AH → Prop}
@[simp] theorem g_true : MG (some true) E r d k fr H Q ↔ MO E r d k fr Q := by simp [MG]
@[simp] theorem g_false : MG (some false) E r d k fr H Q ↔ MD E d undefA k fr H Q := by simp [MG]
theorem g_some {c : Bool} : MG (some c) E r d k fr H Q ↔ (c = true → MO E r d k fr Q) ∧ (c = false → MD E d undefA k fr H Q) := by simp [MG]
@[simp] theorem o_guard {op : Op} {ty : TypeId} {pos : String} {af : Array Edge} {all : List Oper} {j : Nat} {b : Bool} : MOp E all ⟨d, op, ty, pos, af, some (j, b)⟩ k fr H Q ↔ MG (wanted fr all (some (j, b))) E (opK E fr.slots op H) d k fr H Q := Iff.rfl
@[simp] theorem w_def {all : List Oper} {j : Nat} {b : Bool} : wanted fr all (some (j, b)) = match all[j]? with
    | none => none
    | some o => match o.dst with
      | none => none
      | some t => match fr.slots.get t with
        | none => none
        | some (.lit (.bool c)) => some (c == b)
        | some _ => some false := rfl
@[simp] theorem undef_cell : isCell undefA = false := rfl
end
/-- A call whose result is known. -/
theorem MT_det {E : Env} {t : Task} {d : Option Tmp} {k : List Kon} {fr : AFr} {H h : AH} {u : AV} {Q : AEx → AFr → AH → Prop} (hs : C E t H fun v H' => H' = h ∧ v = u) : MT E t d k fr H Q ↔ MD E d u k fr h Q := by
  obtain ⟨n, v, H', h1, rfl, rfl⟩ := hs
  constructor
  · rintro ⟨m, v', H'', h2, h3⟩
    have a := runAt_le (E := E) (Nat.le_max_left n m) _ _ _ h1
    have b := runAt_le (E := E) (Nat.le_max_right n m) _ _ _ h2
    rw [a] at b
    cases b; exact h3
  · intro h3; exact ⟨n, _, _, h1, h3⟩
end Go.Proofs.YtclljjfkaljdnaaGreatDoor
