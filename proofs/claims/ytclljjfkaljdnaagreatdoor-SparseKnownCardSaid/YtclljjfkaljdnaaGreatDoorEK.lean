/- The evaluator in continuation style yields what the direct one yields: statements, calls, runs. No program in sight. -/
import Derived.Test.YtclljjfkaljdnaaGreatDoorEM
import Derived.Test.YtclljjfkaljdnaaGreatDoorE22
import Derived.KernelRfl
namespace Go.Proofs.YtclljjfkaljdnaaGreatDoor
open Go.RowKit

theorem wantedK_r {β γ : Type} {kk : γ → R β} {fr : AFr} {ops : List Oper} {g : Option (Nat × Bool)} {yes no : Unit → R β} {Yes No : Unit → R γ} (hy : ∀ u, Le kk (yes u) (Yes u)) (hn : ∀ u, Le kk (no u) (No u)) :
    Le kk (wantedK fr ops g yes no) (wantedK fr ops g Yes No) := by
  unfold wantedK
  split
  · exact hy _
  · refine nthK_r (fun o => ?_) Le.er
    split
    · refine getK_r (fun v => ?_) Le.er
      split
      · exact boolC_r (boolC_r (hy _) (hn _)) (boolC_r (hn _) (hy _))
      · exact hn _
    · exact Le.er
theorem dstK_r {β γ : Type} {kk : γ → R β} {fr : AFr} {d : Option Tmp} {v : AV} {k : AFr → R β} {K : AFr → R γ} (h : ∀ x, Le kk (k x) (K x)) : Le kk (dstK fr d v k) (dstK fr d v K) := by
  unfold dstK
  split
  · exact h _
  · exact boolC_r Le.er (setK_r (fun _ => h _) Le.er)

/-- Calls and rounds: the one yields what the other one does. -/
def LeG {β : Type} (rc' : Goc β) (rc : Go') : Prop := ∀ t H (k : AV → AH → R β), Le (fun (p : AV × AH) => k p.1 p.2) (rc' t H k) (rc t H)
/-- Statements alike. -/
def LeS {β : Type} (a : Sc β) (A : AFr → AH → St) : Prop := ∀ fr H (k : Kt β), Le (fun (p : AEx × AFr × AH) => k p.1 p.2.1 p.2.2) (a fr H k) (A fr H)

section
variable {E : Env} {β : Type} {rc' : Goc β} {rc : Go'}
theorem operK_r {γ : Type} {kk : γ → R β} (hr : LeG rc' rc) {fr : AFr} {ops : List Oper} {o : Oper} {H : AH} {k : AFr → AH → R β} {K : AFr → AH → R γ} (h : ∀ x y, Le kk (k x y) (K x y)) :
    Le kk (operKc E rc' fr ops o H k) (operK E rc fr ops o H K) := by
  unfold operKc operK
  refine wantedK_r (fun _ => ⟨fun q hq => ?_⟩) (fun _ => dstK_r fun _ => h _ _)
  obtain ⟨r, h1, h2⟩ := opK_c.out q hq
  rw [h1]
  cases r with
  | val v H' => exact (dstK_r (fun _ => h _ _)).out q h2
  | call f args H' =>
    obtain ⟨⟨v, H''⟩, h3, h4⟩ := (hr (.call f args) H' _).out q h2
    dsimp only
    rw [h3]
    exact (dstK_r (fun _ => h _ _)).out q h4
  | round l args H' =>
    obtain ⟨⟨v, H''⟩, h3, h4⟩ := (hr (.round l args) H' _).out q h2
    dsimp only
    rw [h3]
    exact (dstK_r (fun _ => h _ _)).out q h4
theorem opsK_r {γ : Type} {kk : γ → R β} (hr : LeG rc' rc) {ops l : List Oper} {fr : AFr} {H : AH} {k : AFr → AH → R β} {K : AFr → AH → R γ} (h : ∀ x y, Le kk (k x y) (K x y)) :
    Le kk (opsKc E rc' ops l k fr H) (opsK E rc ops l K fr H) := by
  unfold opsKc opsK
  induction l generalizing fr H with
  | nil => exact h _ _
  | cons o l ih =>
    rw [listR_cons, listR_cons]
    exact operK_r hr fun fr' H' => ih (fr := fr') (H := H')
theorem againK_r {γ : Type} {kk : γ → R β} {fr : AFr} {ops : List Oper} {i : Nat} {H : AH} {k : Unit → R β} {K : Unit → R γ} (h : ∀ u, Le kk (k u) (K u)) :
    Le kk (againKc E fr ops i H k) (againK E fr ops i H K) := by
  unfold againKc againK
  refine nthK_r (fun o => wantedK_r (fun _ => ⟨fun q hq => ?_⟩) h) Le.er
  obtain ⟨r, h1, h2⟩ := opK_c.out q hq
  rw [h1]
  cases r with
  | val v H' =>
    dsimp only [sameKc] at h2 ⊢
    generalize o.dst = d at h2 ⊢
    cases d with
    | none => exact (h ()).out q h2
    | some t => exact (getK_r (fun u => boolC_r Le.er (h ())) Le.er).out q h2
  | call f args H' => cases h2
  | round l args H' => cases h2
theorem againL_r {γ : Type} {kk : γ → R β} {fr : AFr} {ops : List Oper} {l : List Nat} {H : AH} {k : Unit → R β} {K : Unit → R γ} (h : ∀ u, Le kk (k u) (K u)) :
    Le kk (againLc E fr ops l H k) (againL E fr ops l H K) := by
  unfold againLc againL
  induction l with
  | nil => exact h _
  | cons i l ih =>
    rw [listR_cons, listR_cons]
    exact againK_r fun _ => ih
theorem planK_r {γ : Type} {kk : γ → R β} (hr : LeG rc' rc) {ops : List Oper} {l : List PStep} {fr : AFr} {H : AH} {k : AFr → AH → R β} {K : AFr → AH → R γ} (h : ∀ x y, Le kk (k x y) (K x y)) :
    Le kk (planKc E rc' ops l k fr H) (planK E rc ops l K fr H) := by
  unfold planKc planK
  induction l generalizing fr H with
  | nil => exact h _ _
  | cons p l ih =>
    rw [listR_cons, listR_cons]
    cases p with
    | op i => exact nthK_r (fun o => operK_r hr fun fr' H' => ih (fr := fr') (H := H')) Le.er
    | wr i re => exact nthK_r (fun o => operK_r hr fun fr' H' => againL_r fun _ => ih (fr := fr') (H := H')) Le.er

theorem seqS_r {a b : Sc β} {A B : AFr → AH → St} (ha : LeS a A) (hb : LeS b B) : LeS (seqSc a b) (seqS A B) := by
  intro fr H k
  refine ⟨fun q hq => ?_⟩
  unfold seqSc at hq
  obtain ⟨⟨ex, fr', H'⟩, h1, h2⟩ := (ha fr H _).out q hq
  unfold seqS
  rw [h1]
  cases ex with
  | normal => exact (hb fr' H' k).out q h2
  | exit j => exact ⟨_, rfl, h2⟩
  | ret => exact ⟨_, rfl, h2⟩
theorem condS_r {x : Operand} {a b : Sc β} {A B : AFr → AH → St} (ha : LeS a A) (hb : LeS b B) : LeS (condSc E x a b) (condS E x A B) := by
  intro fr H k
  unfold condSc condS
  refine evK_r fun v => ?_
  split
  · exact boolC_r (hb _ _ _) (ha _ _ _)
  · exact Le.er
theorem blockS_r {id : Nat} {a : Sc β} {A : AFr → AH → St} (ha : LeS a A) : LeS (blockSc id a) (blockS id A) := by
  intro fr H k
  refine ⟨fun q hq => ?_⟩
  unfold blockSc at hq
  obtain ⟨⟨ex, fr', H'⟩, h1, h2⟩ := (ha fr H _).out q hq
  unfold blockS
  rw [h1]
  cases ex with
  | normal => exact ⟨_, rfl, h2⟩
  | ret => exact ⟨_, rfl, h2⟩
  | exit j =>
    refine (boolC_r (kk := fun (p : AEx × AFr × AH) => k p.1 p.2.1 p.2.2) (f := k (.exit j) fr' H') (F := .ok (.exit j, fr', H')) (t := k .normal fr' H') (T := .ok (.normal, fr', H')) ⟨fun q h => ⟨_, rfl, h⟩⟩ ⟨fun q h => ⟨_, rfl, h⟩⟩).out q h2
theorem loopS_r {a : Sc β} {A : AFr → AH → St} (ha : LeS a A) : LeS (loopSc E a) (loopS E A) := by
  intro fr H k
  unfold loopSc loopS
  generalize E.lim = n
  induction n generalizing fr H with
  | zero => exact Le.er
  | succ n ih =>
    refine ⟨fun q hq => ?_⟩
    obtain ⟨⟨ex, fr', H'⟩, h1, h2⟩ := (ha fr H _).out q hq
    rw [natR_succ]
    rw [h1]
    cases ex with
    | normal => exact (ih fr' H').out q h2
    | exit j => exact ⟨_, rfl, h2⟩
    | ret => exact ⟨_, rfl, h2⟩
theorem enterS_r {γ : Type} {kk : γ → R β} {fr : AFr} {ps : List Tmp} {as bd : Code} {H : AH} {k : Nat → AFr → AH → R β} {K : Nat → AFr → AH → R γ} (h : ∀ x y z, Le kk (k x y z) (K x y z)) : Le kk (enterS fr ps as bd H k) (enterS fr ps as bd H K) := by
  unfold enterS
  obtain ⟨s, n, m, r, f⟩ := fr
  cases r with
  | none => exact newK_r fun _ _ => newK_r fun _ _ => h _ _ _
  | some l =>
    refine objK_r fun o => ?_
    cases o with
    | loop => exact newK_r fun _ _ => h _ _ _
    | cells => exact Le.er
    | bag => exact Le.er
    | map => exact Le.er
    | deferred => exact Le.er
theorem jumpS_r {pend : Option Code} {fr : AFr} {H : AH} {k : Kt β} : Le (fun (p : AEx × AFr × AH) => k p.1 p.2.1 p.2.2) (jumpSc pend fr H k) (jumpS pend fr H) := by
  unfold jumpSc jumpS
  cases pend with
  | none => exact ⟨fun q h => ⟨_, rfl, h⟩⟩
  | some c =>
    cases c with
    | ret => exact ⟨fun q h => ⟨_, rfl, h⟩⟩
    | exit id => exact ⟨fun q h => ⟨_, rfl, h⟩⟩
    | _ => exact Le.er
theorem rangeS_r (hr : LeG rc' rc) {g : Operand} {ps : List Tmp} {as bd : Code} : LeS (rangeSc E rc' g ps as bd) (rangeS E rc g ps as bd) := by
  intro fr H k
  unfold rangeSc rangeS
  refine evK_r fun gv => enterS_r fun l fr' H1 => ⟨fun q hq => ?_⟩
  obtain ⟨r, h1, h2⟩ := callK_c.out q hq
  rw [h1]
  cases r with
  | val v H' => cases h2
  | round l args H' => cases h2
  | call f args H2 =>
    dsimp only at h2 ⊢
    obtain ⟨⟨v, H3⟩, h3, h4⟩ := (hr (.call f args) H2 _).out q h2
    rw [h3]
    dsimp only at h4 ⊢
    unfold doneSc at h4
    refine (objK_r (kk := fun (p : AEx × AFr × AH) => k p.1 p.2.1 p.2.2) (fun o => ?_)).out q h4
    cases o with
    | loop st =>
      cases st with
      | busy => exact Le.er
      | ready => exact updK_r fun _ => jumpS_r
      | done => exact updK_r fun _ => jumpS_r
      | exhausted => exact updK_r fun _ => jumpS_r
    | cells => exact Le.er
    | bag => exact Le.er
    | map => exact Le.er
    | deferred => exact Le.er
theorem leafS_r (hr : LeG rc' rc) {c : Code} : LeS (leafSc E rc' c) (leafS E rc c) := by
  intro fr H k
  unfold leafSc leafS
  cases c with
  | skip => exact ⟨fun q h => ⟨_, rfl, h⟩⟩
  | ret => exact ⟨fun q h => ⟨_, rfl, h⟩⟩
  | exit id => exact ⟨fun q h => ⟨_, rfl, h⟩⟩
  | region id ops d =>
    exact boolC_r (opsK_r hr fun fr' H' => ⟨fun q h => ⟨_, rfl, h⟩⟩) (getK_r (fun tb => getK_r (fun pl => planK_r hr fun fr' H' => ⟨fun q h => ⟨_, rfl, h⟩⟩) Le.er) Le.er)
  | rangeFunc g ps as bd => exact rangeS_r hr fr H k
  | _ => exact Le.er
theorem codeS_r (hr : LeG rc' rc) (c : Code) : LeS (codeSc E rc' c) (codeS E rc c) := by
  induction c with
  | seq a b iha ihb => exact seqS_r iha ihb
  | cond x a b iha ihb => exact condS_r iha ihb
  | block id a ih => exact blockS_r ih
  | loop a ih =>
    have e1 : codeSc E rc' (.loop a) = loopSc E (codeSc E rc' a) := by kernel_rfl
    have e2 : codeS E rc (.loop a) = loopS E (codeS E rc a) := by kernel_rfl
    rw [e1, e2]; exact loopS_r ih
  | skip => exact leafS_r (E := E) hr (c := .skip)
  | region id ops d => exact leafS_r (E := E) hr (c := .region id ops d)
  | rangeFunc f ps as bd _ _ => exact leafS_r (E := E) hr (c := .rangeFunc f ps as bd)
  | exit id => exact leafS_r (E := E) hr (c := .exit id)
  | scope c _ => exact leafS_r (E := E) hr (c := .scope c)
  | label l => exact leafS_r (E := E) hr (c := .label l)
  | goto l => exact leafS_r (E := E) hr (c := .goto l)
  | ret => exact leafS_r (E := E) hr (c := .ret)
  | refuse w => exact leafS_r (E := E) hr (c := .refuse w)

theorem eraseL_r {γ : Type} {kk : γ → R β} {l : List Nat} {H : AH} {k : AH → R β} {K : AH → R γ} (h : ∀ x, Le kk (k x) (K x)) : Le kk (eraseL l H k) (eraseL l H K) := by
  unfold eraseL
  induction l generalizing H with
  | nil => exact h _
  | cons i l ih =>
    rw [listR_cons, listR_cons]
    refine objK_r fun o => ?_
    cases o with
    | deferred => exact updK_r fun H' => ih (H := H')
    | _ => exact Le.er
theorem resK_r {γ : Type} {kk : γ → R β} {s : Tr AV} {H : AH} {rs : List ResultVar} {k : AV → R β} {K : AV → R γ} (h : ∀ x, Le kk (k x) (K x)) : Le kk (resK E s H rs k) (resK E s H rs K) := by
  unfold resK
  refine mapK_r (fun a g G hg => ?_) (fun l => ?_)
  · cases a with
    | tmp t => exact getK_r hg Le.er
    | cell a t => exact getK_r (fun p => loadK_r hg) Le.er
  · split
    · exact h _
    · exact h _
theorem slotsK_r {γ : Type} {kk : γ → R β} {args : List AV} {k : Nat → Tr AV → R β} {K : Nat → Tr AV → R γ} (h : ∀ x y, Le kk (k x y) (K x y)) : Le kk (slotsK args k) (slotsK args K) := by
  unfold slotsK
  exact writeK_r fun t => lenK_r fun n => h _ _
theorem bodyS_r (hr : LeG rc' rc) {f : FuncId} {args : List AV} {H : AH} {k : AV → AH → R β} : Le (fun (p : AV × AH) => k p.1 p.2) (bodySc E rc' f args H k) (bodyS E rc f args H) := by
  unfold bodySc bodyS
  refine getK_r (fun fn => ?_) Le.er
  split
  · exact Le.er
  · rename_i c hc
    rw [hc]
    dsimp only
    refine slotsK_r fun n s => forceN_r fun n' => ⟨fun q hq => ?_⟩
    obtain ⟨⟨ex, fr, H1⟩, h1, h2⟩ := (codeS_r hr c _ _ _).out q hq
    rw [h1]
    have hend : ∀ {s' n' m r' f'}, Le (fun (p : AV × AH) => k p.1 p.2) (eraseL m H1 fun H2 => resK E s' H2 fn.results.toList fun v => k v H2) (match (⟨s', n', m, r', f'⟩ : AFr) with | ⟨s', _, m, _, _⟩ => eraseL m H1 fun H2 => resK E s' H2 fn.results.toList fun v => .ok (v, H2)) :=
      eraseL_r fun H2 => resK_r fun v => ⟨fun q h => ⟨_, rfl, h⟩⟩
    cases ex with
    | exit j => cases h2
    | normal => obtain ⟨s', n', m, r', f'⟩ := fr; exact (hend (s' := s') (n' := n') (m := m) (r' := r') (f' := f')).out q h2
    | ret => obtain ⟨s', n', m, r', f'⟩ := fr; exact (hend (s' := s') (n' := n') (m := m) (r' := r') (f' := f')).out q h2
theorem setPs_r {γ : Type} {kk : γ → R β} {n : Nat} {ps : List Tmp} {args : List AV} {s : Tr AV} {k : Tr AV → R β} {K : Tr AV → R γ} (h : ∀ x, Le kk (k x) (K x)) : Le kk (setPs n ps args s k) (setPs n ps args s K) := by
  unfold setPs
  induction ps generalizing args s with
  | nil =>
    cases args with
    | nil => exact h _
    | cons a l => exact Le.er
  | cons p l ih =>
    rw [listR_cons, listR_cons]
    cases args with
    | nil => exact Le.er
    | cons a args => exact boolC_r Le.er (setK_r (fun s1 => ih (args := args) (s := s1)) Le.er)
theorem roundS_r (hr : LeG rc' rc) {l : Nat} {args : List AV} {H : AH} {k : AV → AH → R β} : Le (fun (p : AV × AH) => k p.1 p.2) (roundSc E rc' l args H k) (roundS E rc l args H) := by
  unfold roundSc roundS
  refine objK_r fun o => ?_
  cases o with
  | loop st pend f n s ps as bd0 d =>
    cases st with
    | ready =>
      refine setPs_r fun s1 => ⟨fun q hq => ?_⟩
      obtain ⟨⟨ex, fr, H1⟩, h1, h2⟩ := (codeS_r hr as _ _ _).out q hq
      rw [h1]
      cases ex with
      | exit j => cases h2
      | ret => cases h2
      | normal =>
        dsimp only [innerSc] at h2 ⊢
        refine (objK_r (kk := fun (p : AV × AH) => k p.1 p.2) (fun o => ?_)).out q h2
        cases o with
        | loop st pend f n s ps as bd d =>
          cases st with
          | ready =>
            refine updK_r fun H2 => ⟨fun q hq => ?_⟩
            obtain ⟨⟨ex, fr', H3⟩, h1, h2⟩ := (codeS_r hr bd0 _ _ _).out q hq
            rw [h1]
            dsimp only [behindSc] at h2 ⊢
            refine (objK_r (kk := fun (p : AV × AH) => k p.1 p.2) (fun o => ?_)).out q h2
            cases o with
            | loop st pend f n s ps as bd d =>
              cases ex with
              | normal => exact updK_r fun H4 => ⟨fun q h => ⟨_, rfl, h⟩⟩
              | ret => exact updK_r fun H4 => ⟨fun q h => ⟨_, rfl, h⟩⟩
              | exit id => exact updK_r fun H4 => ⟨fun q h => ⟨_, rfl, h⟩⟩
            | _ => exact Le.er
          | _ => exact Le.er
        | _ => exact Le.er
    | _ => exact Le.er
  | _ => exact Le.er
theorem hookS_r {h : Nat} {args : List AV} {H : AH} {k : AV → AH → R β} : Le (fun (p : AV × AH) => k p.1 p.2) (hookSc E h args H k) (hookK E h args H) := by
  unfold hookSc
  refine ⟨fun q hq => ?_⟩
  split at hq
  · cases hq
  · rename_i p hp
    obtain ⟨v, H'⟩ := p
    exact ⟨_, hp, hq⟩
end

theorem goK_r {E : Env} {β : Type} (n : Nat) : LeG (goKc E (β := β) n) (goK E n) := by
  unfold goKc goK
  induction n with
  | zero => intro t H k; exact Le.er
  | succ n ih =>
    intro t H k
    cases t with
    | call f args => exact getK_r (fun h => natC_r (bodyS_r ih) fun h' => natC_r (bodyS_r ih) fun _ => hookS_r) (bodyS_r ih)
    | round l args => exact roundS_r ih

theorem lastK_ok {v : AV} {H : AH} {u : Value} (h : lastK v H = .ok u) : v = .lit u := by
  unfold lastK at h
  split at h
  · unfold forceV at h
    split at h
    · rw [forceI_eq] at h; cases h; rfl
    · rename_i b
      cases b <;> (cases h; rfl)
    · cases h; rfl
  · cases h
/-- **A CLOSED RUN**, in continuation style. -/
theorem closed_runc {P : Program} {pl : Plans} {ky : List (Nat × KS)} {hk : List (Nat × Nat)} {tab : List Nat} {fuel : Nat} {f : FuncId} {args : List AV} {args' : Array Value} {v : Value} (G : Given P pl ky) (h : runKc P pl ky hk tab fuel f args = .ok v) (ha : ∀ ρ, RlL ρ args args'.toList)
    (w : World) (ht : TabAt w tab) (HK : ∀ E, EnvOK P E → (∀ f n, E.hk.get f = some n → (f, n) ∈ hk) → HkOK P E w) :
    Calls P f args' w fun e w' => e = .returned v ∧ Chg (fun _ => False) w w' := by
  unfold runKc at h
  obtain ⟨E, h1, hE, hh, hg⟩ := envK_ok G h
  obtain ⟨H, h2, hst⟩ := heapK_ok h1
  obtain ⟨⟨u, H'⟩, h3, h4⟩ := (goK_r fuel _ _ _).out v h2
  obtain rfl := lastK_ok h4
  obtain ⟨ρ, hρ⟩ := hst E w hg ht
  exact run_sound hE (HK E hE hh) h3 hρ (ha ρ)
end Go.Proofs.YtclljjfkaljdnaaGreatDoor
