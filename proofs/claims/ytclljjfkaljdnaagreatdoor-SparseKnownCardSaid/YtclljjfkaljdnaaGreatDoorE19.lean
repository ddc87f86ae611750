/- Ranges over functions, rounds, bodies, and all runs. No program in sight. -/
import Derived.Test.YtclljjfkaljdnaaGreatDoorE18
import Derived.Conc.MuLone
namespace Go.Proofs.YtclljjfkaljdnaaGreatDoor
open Go.RowKit

section
variable {P : Program} {E : Env} {rc : Go'} {w0 w : World} {ρ : Ren} {H : AH}

/-- A loop's record turned, in both. -/
theorem HR.reloop (hr : HR E w0 ρ H w) {H' : AH} {id b sh N : Nat} {st st' : LoopState} {pend pend' : Option Code} {f : FuncId} {n : Nat} {s : Tr AV} {ps : List Tmp} {as bd : Code} {d : Nat} {r : Loop} (hi : ρ id = some (b, sh, N))
    (ho : H.t.get id = some (.loop st pend f n s ps as bd d)) (hw : w.heap[b]? = some (.loop r)) (hT : Turned H id (some (.loop st' pend' f n s ps as bd d)) H') :
    HR E w0 ρ H' (w.putObj b (.loop { r with state := st', pending := pend' })) ∧ Later ρ H ρ H' := by
  obtain ⟨k1, k2, r', h1, h2, h3, h4, h5, h6, h7, h8, s', N', h9⟩ := hr.obj _ _ _ _ _ hi ho
  rw [hw] at h1; cases h1
  refine hr.turn hi ho rfl rfl hT ?_ (by simp [World.putObj]) (fun k hk => World.putObj_heap_other hk) rfl rfl rfl
  rw [World.putObj_heap_same (blk_lt hw)]
  exact ⟨k1, k2, _, rfl, rfl, rfl, h4, h5, h6, h7, h8, s', N', h9⟩
theorem HR.loop_at (hr : HR E w0 ρ H w) {id b sh N : Nat} {st : LoopState} {pend : Option Code} {f : FuncId} {n : Nat} {s : Tr AV} {ps : List Tmp} {as bd : Code} {d : Nat} (hi : ρ id = some (b, sh, N)) (ho : H.t.get id = some (.loop st pend f n s ps as bd d)) :
    ∃ r, w.heap[b]? = some (.loop r) ∧ r.state = st ∧ r.pending = pend ∧ r.tmps.size = n ∧ (∀ (i : Nat) av, s.get i = some av → ∃ v, r.tmps[i]? = some v ∧ Rl ρ av v) ∧ r.params.toList = ps ∧ r.assign = as ∧ r.body = bd ∧ (∃ s' N', ρ d = some (r.defers, s', N')) ∧ OKc E f as ∧ OKc E f bd := by
  obtain ⟨k1, k2, r, h1, h2, h3, h4, h5, h6, h7, h8, h9⟩ := hr.obj _ _ _ _ _ hi ho
  exact ⟨r, h1, h2, h3, h4, h5, h6, h7, h8, h9, k1, k2⟩

theorem callK_fn {f : AV} {args : List AV} {H H2 : AH} {g : FuncId} {l : List AV} (h : callK f args H = .ok (.call g l H2)) : ∃ first captured, f = .fn (.func g) first captured ∧ l = first ++ (args ++ captured) ∧ H2 = H := by
  unfold callK at h
  split at h
  · split at h
    · rw [appK_eq, appK_eq] at h
      cases h
      exact ⟨_, _, rfl, rfl, rfl⟩
    · rw [appK_eq] at h
      cases h
    · cases h
  · cases h

theorem enterS_ok {β : Type} {fr : AFr} {ps : List Tmp} {as bd : Code} {k : Nat → AFr → AH → R β} {q : β} (h : enterS fr ps as bd H k = .ok q) :
    (fr.round = none ∧ ∃ H1 H2, Added H .deferred H1 ∧ Added H1 (.loop .ready none fr.fn fr.size fr.slots ps as bd H.next) H2 ∧ k H1.next { fr with marks := H.next :: fr.marks } H2 = .ok q) ∨
    (∃ l0 st pend f n s ps' as' bd' d H1, fr.round = some l0 ∧ H.t.get l0 = some (.loop st pend f n s ps' as' bd' d) ∧ Added H (.loop .ready none fr.fn fr.size fr.slots ps as bd d) H1 ∧ k H.next fr H1 = .ok q) := by
  obtain ⟨s, n, m, r, f⟩ := fr
  unfold enterS at h
  cases r with
  | none =>
    dsimp only at h
    replace h := newK_ok h; obtain ⟨H1, h1, h⟩ := h
    replace h := newK_ok h; obtain ⟨H2, h2, h⟩ := h
    exact .inl ⟨rfl, H1, H2, h1, h2, h⟩
  | some l0 =>
    dsimp only at h
    replace h := objK_ok h; obtain ⟨ob, hob, h⟩ := h
    split at h
    · replace h := newK_ok h; obtain ⟨H1, h1, h⟩ := h
      exact .inr ⟨l0, _, _, _, _, _, _, _, _, _, H1, rfl, hob, h1, h⟩
    · cases h

theorem jumpS_ok {pend : Option Code} {fr : AFr} {H : AH} {q : AEx × AFr × AH} (h : jumpS pend fr H = .ok q) : q.2 = (fr, H) ∧ ((pend = none ∧ q.1 = .normal) ∨ (pend = some .ret ∧ q.1 = .ret) ∨ ∃ id, pend = some (.exit id) ∧ q.1 = .exit id) := by
  unfold jumpS at h
  split at h
  · cases h; exact ⟨rfl, .inl ⟨rfl, rfl⟩⟩
  · split at h
    · cases h; exact ⟨rfl, .inr (.inl ⟨rfl, rfl⟩)⟩
    · cases h; exact ⟨rfl, .inr (.inr ⟨_, rfl, rfl⟩)⟩
    · cases h

theorem sim_range (RO : RcOK P E w0 rc) {g : Operand} {ps : Array Tmp} {as bd : Code} : Sim P E w0 (leafS E rc (.rangeFunc g ps as bd)) (.rangeFunc g ps as bd) := by
  intro fr H ex fr' H' h hok
  have h : rangeS E rc g ps.toList as bd fr H = .ok (ex, fr', H') := h
  unfold rangeS at h
  replace h := evK_ok h; obtain ⟨gv, hgv, h⟩ := h
  -- what is behind the entry
  have key : ∀ {l : Nat} {fr1 : AFr} {H1 : AH}, (match callK gv [.fn (.yield l) [] []] H1 with
    | .ok (.call f args H2) => (match rc (.call f args) H2 with
      | .er l => .er (fr.fn :: l)
      | .ok p => match p with
        | (_, H3) => objK H3 l fun o => match o with
          | .loop st pend f n s ps as bd d => (match st with
            | .busy => .er [133]
            | _ => updK H3 l (some (.loop .exhausted pend f n s ps as bd d)) fun H4 => jumpS pend fr1 H4)
          | _ => .er [134])
    | _ => .er [135]) = (.ok (ex, fr', H') : St) → fr' = fr1 ∧ ∃ f first captured v H3 st pend fn n s ps' as' bd' d, gv = .fn (.func f) first captured ∧ rc (.call f (first ++ ([.fn (.yield l) [] []] ++ captured))) H1 = .ok (v, H3) ∧
      H3.t.get l = some (.loop st pend fn n s ps' as' bd' d) ∧ st ≠ .busy ∧ Turned H3 l (some (.loop .exhausted pend fn n s ps' as' bd' d)) H' ∧ ((pend = none ∧ ex = .normal) ∨ (pend = some .ret ∧ ex = .ret) ∨ ∃ id, pend = some (.exit id) ∧ ex = .exit id) := by
    intro l fr1 H1 h
    cases hc : callK gv [.fn (.yield l) [] []] H1 with
    | er e => rw [hc] at h; cases h
    | ok r =>
      rw [hc] at h
      cases r with
      | val v H => cases h
      | round l args H => cases h
      | call f args H2 =>
        obtain ⟨first, captured, rfl, rfl, rfl⟩ := callK_fn hc
        dsimp only at h
        split at h
        · cases h
        · rename_i p hp
          obtain ⟨v, H3⟩ := p
          dsimp only at h
          replace h := objK_ok h; obtain ⟨ob, hob, h⟩ := h
          split at h
          · rename_i st pend fn n s ps' as' bd' d
            have hb : st ≠ .busy ∧ updK H3 l (some (.loop .exhausted pend fn n s ps' as' bd' d)) (fun H4 => jumpS pend fr1 H4) = .ok (ex, fr', H') := by
              cases st <;> first | (cases h; done) | exact ⟨by simp, h⟩
            obtain ⟨hst, h⟩ := hb
            replace h := updK_ok h; obtain ⟨H4, hT, h⟩ := h
            obtain ⟨e1, e2⟩ := jumpS_ok h
            obtain ⟨rfl, rfl⟩ := Prod.mk.inj e1
            exact ⟨rfl, f, first, captured, v, H3, st, pend, fn, n, s, ps', as', bd', d, rfl, hp, hob, hst, hT, e2⟩
          · cases h
  -- the machine behind the entry
  have mach : ∀ {l : Nat} {fr1 : AFr} {H1 : AH} {f : FuncId} {first captured : List AV} {v : AV} {H3 : AH} {st : LoopState} {pend : Option Code} {fn : FuncId} {n : Nat} {s : Tr AV} {ps' : List Tmp} {as' bd' : Code} {d : Nat},
      gv = .fn (.func f) first captured → rc (.call f (first ++ ([.fn (.yield l) [] []] ++ captured))) H1 = .ok (v, H3) → H3.t.get l = some (.loop st pend fn n s ps' as' bd' d) → st ≠ .busy → Turned H3 l (some (.loop .exhausted pend fn n s ps' as' bd' d)) H' →
      ((pend = none ∧ ex = .normal) ∨ (pend = some .ret ∧ ex = .ret) ∨ ∃ id, pend = some (.exit id) ∧ ex = .exit id) →
      ∀ (m : Nat) (ρ ρ1 : Ren) (ro : Option Nat) (a a1 : Act) (w1 : World) (Q : Exit → Act → World → Prop) (bl sl Nl : Nat), Gl E ρ → FR ρ ro fr a → Later ρ H ρ1 H1 → HR E w0 ρ1 H1 w1 → FR ρ1 ro fr1 a1 → ρ1 l = some (bl, sl, Nl) →
      (∀ e ρ' a' w', ExRel ex e → FR ρ' ro fr1 a' → HR E w0 ρ' H' w' → Later ρ H ρ' H' → Q e a' w') →
      ∃ (dd : Deferred) (f' : FuncId) (args : Array Value), (resolve a.eval (rangeCall g bl) 0).run P w1 = .ok dd w1 ∧ (invoke dd.target dd.args).run P w1 = .ok (.enter f' args) w1 ∧ CallsIn (Fw ro) (m - 1) P f' args w1 (rangePost (Fw ro) m P bl Q a1) := by
    intro l fr1 H1 f first captured v H3 st pend fn n s ps' as' bd' d e1 hrc hl3 hst hT hj m ρ ρ1 ro a a1 w1 Q bl sl Nl hgl hfr hlat hh1 hfr1 hbl hk
    subst e1
    have hsee : Sees ρ fr.slots a g := by cases g <;> first | trivial | exact fun v hv => hfr.slot _ v hv
    obtain ⟨l', m', q1, q2, eg⟩ := (hgv.rel' hgl hsee).inv_fn
    have hargs : RlL ρ1 (first ++ ([.fn (.yield l) [] []] ++ captured)) ((l' ++ (#[Value.func (.yield bl) #[] #[]] : Array Value)) ++ m').toList := by
      simp only [Array.toList_append, List.append_assoc]
      exact (q1.mono hlat.ext).append ((RlL.cons (.yld hbl) .nil).append (q2.mono hlat.ext))
    obtain ⟨h3, h4⟩ := RO.call _ _ _ _ _ hrc ρ1 w1 _ hh1 hargs
    refine ⟨{ target := .fn (.func f) m', args := l' ++ (#[Value.func (.yield bl) #[] #[]] : Array Value) }, f, _, ?_, ?_, callsIn_any (h4.mono ?_)⟩
    · have hconst : a.eval (.const (.func (.yield bl) #[] #[])) = .func (.yield bl) #[] #[] := rfl
      simp [resolve, eg, Deferred.ofValue, hconst]
    · simp only [invoke]
      exact h3
    · rintro e w3 ⟨u, ρ3, rfl, g1, g2, g3⟩
      have hl3' := g3.ext _ _ hbl
      obtain ⟨r, hr1, hr2, hr3, hr4, hr5, hr6, hr7, hr8, hr9, _, _⟩ := g2.loop_at hl3' hl3
      obtain ⟨k1, k2⟩ := g2.reloop hl3' hl3 hr1 hT
      refine ⟨pend, _, by rw [← hr3]; exact run_endLoop hr1 (by rw [hr2]; exact hst), ?_⟩
      have hHR : HR E w0 ρ3 H' (w3.putObj bl (.loop { r with state := .exhausted })) := by
        have : ({ r with state := .exhausted, pending := pend } : Loop) = { r with state := .exhausted } := by rw [← hr3]
        rw [← this]; exact k1
      have hlt : Later ρ H ρ3 H' := (hlat.trans g3).trans k2
      have hfr3 := hfr1.mono g3.ext
      rcases hj with ⟨rfl, rfl⟩ | ⟨rfl, rfl⟩ | ⟨id, rfl, rfl⟩
      · exact hk .normal ρ3 a1 _ trivial hfr3 hHR hlt
      · exact wpIn_ret (hk .ret ρ3 a1 _ trivial hfr3 hHR hlt)
      · exact wpIn_exit (hk (.exit id) ρ3 a1 _ rfl hfr3 hHR hlt)
  rcases enterS_ok h with ⟨hrd, H1, H2, hA1, hA2, h⟩ | ⟨l0, st, pend, f0, n0, s0, ps0, as0, bd0, d0, H1, hrd, hl0, hA1, h⟩
  · obtain ⟨rfl, f, first, captured, v, H3, st, pend, fn, n, s, ps', as', bd', d, e1, hrc, hl3, hst, hT, hj⟩ := key h
    refine ⟨rfl, fun m ρ ro a w Q hh hf hk => ?_⟩
    have hro : ro = none := by
      rcases hf.round with ⟨_, e⟩ | ⟨l, b, s, N, e, _⟩
      · exact e
      · rw [hrd] at e; cases e
    subst hro
    refine wpIn_rangeFunc fun fn0 _ => ?_
    have o1 : OR E (ρ.add H.next (w.heap.size, 0, 0)) .deferred 0 0 (some (.deferred (some []))) := rfl
    obtain ⟨p1, p2⟩ := hh.alloc hA1 o1
    have hsz1 : (w.alloc (.deferred (some []))).heap.size = w.heap.size + 1 := alloc_size _ _
    have hn1 : H1.next = H.next + 1 := hA1.1
    have x1 := p2.ext
    have o2 : OR E ((ρ.add H.next (w.heap.size, 0, 0)).add H1.next ((w.alloc (.deferred (some []))).heap.size, 0, 0)) (.loop .ready none fr.fn fr.size fr.slots ps.toList as bd H.next) 0 0
        (some (.loop { state := .ready, pending := none, fn := fn0, tmps := a.tmps, params := ps, assign := as, body := bd, defers := w.heap.size })) := by
      have x2 := Ren.add_ext (p := ((w.alloc (.deferred (some []))).heap.size, 0, 0)) p1.fresh
      refine ⟨hok.1, hok.2, _, rfl, rfl, rfl, hf.size, fun i av ha => ?_, rfl, rfl, rfl, 0, 0, x2 _ _ (Ren.add_self _ _ _)⟩
      obtain ⟨v, h1, h2⟩ := hf.slot i av ha
      exact ⟨v, h1, (h2.mono x1).mono x2⟩
    obtain ⟨p3, p4⟩ := p1.alloc hA2 o2
    have hlat := p2.trans p4
    have hfr1 : FR ((ρ.add H.next (w.heap.size, 0, 0)).add H1.next ((w.alloc (.deferred (some []))).heap.size, 0, 0)) none { fr with marks := H.next :: fr.marks } { a with defers := [{ target := .collected w.heap.size, args := #[] }] ++ a.defers } := by
      have hf2 := hf.mono hlat.ext
      exact ⟨hf2.size, hf2.slot, .cons ⟨w.heap.size, 0, 0, p4.ext _ _ (Ren.add_self _ _ _), rfl⟩ hf2.marks, hf2.round⟩
    obtain ⟨dd, f', args, q1, q2, q3⟩ := mach (l := H1.next) e1 hrc hl3 hst hT hj m ρ _ none a _ _ Q _ 0 0 hh.gl hf hlat p3 hfr1 (by rw [Ren.add_self, hsz1]) hk
    exact ⟨_, _, _, dd, _, f', args, _, run_enterLoop_outer fn0 a.tmps ps as bd, q1, fun _ _ => trivial, q2, (fun h => by cases h), q3⟩
  · obtain ⟨rfl, f, first, captured, v, H3, st, pend, fn, n, s, ps', as', bd', d, e1, hrc, hl3, hst, hT, hj⟩ := key h
    refine ⟨rfl, fun m ρ ro a w Q hh hf hk => ?_⟩
    obtain ⟨b0, s1, N1, hb0, rfl⟩ : ∃ b s N, ρ l0 = some (b, s, N) ∧ ro = some b := by
      rcases hf.round with ⟨e, _⟩ | ⟨l, b, s, N, e, h1, h2⟩
      · rw [hrd] at e; cases e
      · rw [hrd] at e; cases e; exact ⟨b, s, N, h1, h2⟩
    obtain ⟨r0, hr1, _, _, _, _, _, _, _, ⟨s9, N9, hr9⟩, _, _⟩ := hh.loop_at hb0 hl0
    refine wpIn_rangeFunc fun fn0 _ => ?_
    have o1 : OR E (ρ.add H.next (w.heap.size, 0, 0)) (.loop .ready none fr'.fn fr'.size fr'.slots ps.toList as bd d0) 0 0
        (some (.loop { state := .ready, pending := none, fn := fn0, tmps := a.tmps, params := ps, assign := as, body := bd, defers := r0.defers })) := by
      have x2 := Ren.add_ext (p := (w.heap.size, 0, 0)) hh.fresh
      refine ⟨hok.1, hok.2, _, rfl, rfl, rfl, hf.size, fun i av ha => ?_, rfl, rfl, rfl, s9, N9, x2 _ _ hr9⟩
      obtain ⟨v, h1, h2⟩ := hf.slot i av ha
      exact ⟨v, h1, h2.mono x2⟩
    obtain ⟨p1, p2⟩ := hh.alloc hA1 o1
    obtain ⟨dd, f', args, q1, q2, q3⟩ := mach (l := H.next) e1 hrc hl3 hst hT hj m ρ _ (some b0) a a _ Q _ 0 0 hh.gl hf p2 p1 (hf.mono p2.ext) (Ren.add_self _ _ _) hk
    exact ⟨_, _, _, dd, _, f', args, _, run_enterLoop_inner hr1 fn0 a.tmps ps as bd, q1, fun _ _ => trivial, q2, (fun h => by cases h), q3⟩

theorem sim_code (EO : EnvOK P E) (RO : RcOK P E w0 rc) : ∀ c : Code, Sim P E w0 (codeS E rc c) c
  | .skip => sim_skip (rc := rc)
  | .region _ _ _ => sim_region EO RO
  | .seq a b => sim_seq (sim_code EO RO a) (sim_code EO RO b)
  | .cond _ a b => sim_cond (sim_code EO RO a) (sim_code EO RO b)
  | .block _ a => sim_block (sim_code EO RO a)
  | .loop a => sim_loop (sim_code EO RO a)
  | .rangeFunc _ _ _ _ => sim_range RO
  | .exit _ => sim_exit (rc := rc)
  | .ret => sim_ret (rc := rc)
  | .scope _ => fun _ _ _ _ _ h => by cases h
  | .label _ => fun _ _ _ _ _ h => by cases h
  | .goto _ => fun _ _ _ _ _ h => by cases h
  | .refuse _ => fun _ _ _ _ _ h => by cases h

/-! ### rounds -/
theorem setPs_ok {β : Type} {n : Nat} {k : Tr AV → R β} {q : β} : ∀ {ps : List Tmp} {args : List AV} {s : Tr AV}, setPs n ps args s k = .ok q →
    ∃ s1, k s1 = .ok q ∧ args.length = ps.length ∧ ∀ (ρ : Ren) (vs : List Value) (tm : Array Value), RlL ρ args vs → tm.size = n → (∀ (i : Nat) av, s.get i = some av → ∃ v, tm[i]? = some v ∧ Rl ρ av v) →
      ((ps.zip vs).foldl (fun (tm : Array Value) (p : Tmp × Value) => tm.setIfInBounds p.1 p.2) tm).size = n ∧ ∀ (i : Nat) av, s1.get i = some av → ∃ v, ((ps.zip vs).foldl (fun (tm : Array Value) (p : Tmp × Value) => tm.setIfInBounds p.1 p.2) tm)[i]? = some v ∧ Rl ρ av v
  | [], [], s, h => ⟨s, h, rfl, fun ρ vs tm hr hs hrel => by cases hr; exact ⟨hs, hrel⟩⟩
  | [], _ :: _, s, h => by cases h
  | _ :: _, [], s, h => by cases h
  | p :: ps, a :: args, s, h => by
    have h' : boolC (.er [163]) (setK 64 s p (some a) (fun s' => setPs n ps args s' k) (.er [164])) (Nat.blt p n) = .ok q := h
    replace h' := boolC_er h'; obtain ⟨hlt, h'⟩ := h'
    replace h' := setK_ok h'; obtain ⟨s', hs', h'⟩ := h'
    obtain ⟨s1, h1, h2, h3⟩ := setPs_ok (ps := ps) h'
    have hlt' : p < n := by rw [Nat.blt_eq] at hlt; exact hlt
    refine ⟨s1, h1, by simp [h2], fun ρ vs tm hr hs hrel => ?_⟩
    cases hr with
    | @cons _ v _ vs hr1 hr2 =>
      refine h3 ρ vs (tm.setIfInBounds p v) hr2 (by simpa using hs) fun i av hi => ?_
      rw [hs'] at hi
      rw [Array.getElem?_setIfInBounds]
      by_cases e : i = p
      · subst e
        rw [if_pos rfl] at hi
        cases hi
        exact ⟨v, by rw [if_pos rfl, if_pos (by rw [hs]; exact hlt')], hr1⟩
      · rw [if_neg e] at hi
        rw [if_neg (fun h => e h.symm)]
        exact hrel i av hi

theorem round_ok (EO : EnvOK P E) (RO : RcOK P E w0 rc) {l : Nat} {args : List AV} {H H' : AH} {v : AV} (h : roundS E rc l args H = .ok (v, H')) : RoundOK P E w0 l args H v H' := by
  unfold roundS at h
  replace h := objK_ok h; obtain ⟨ob, hob, h⟩ := h
  split at h
  · rename_i st pend f n s ps as bd d
    split at h
    · replace h := setPs_ok h; obtain ⟨s1, h, hlen, hset⟩ := h
      cases hx : codeS E rc as ⟨s1, n, [], some l, f⟩ H with
      | er e => rw [hx] at h; cases h
      | ok r =>
        rw [hx] at h
        obtain ⟨ex1, fr1, H1⟩ := r
        cases ex1 with
        | exit j => cases h
        | ret => cases h
        | normal =>
          dsimp only at h
          replace h := objK_ok h; obtain ⟨ob1, hob1, h⟩ := h
          split at h
          · rename_i st1 pend1 f1 n1 s2 ps1 as1 bd1 d1
            split at h
            · replace h := updK_ok h; obtain ⟨H2, hT2, h⟩ := h
              cases hy : codeS E rc bd fr1 H2 with
              | er e => rw [hy] at h; cases h
              | ok r2 =>
                rw [hy] at h
                obtain ⟨ex, fr2, H3⟩ := r2
                dsimp only at h
                replace h := objK_ok h; obtain ⟨ob3, hob3, h⟩ := h
                split at h
                · rename_i st3 pend3 f3 n3 s3 ps3 as3 bd3 d3
                  -- how it ends
                  have hend : ∃ st' jump, Turned H3 l (some (.loop st' jump f3 n3 s3 ps3 as3 bd3 d3)) H' ∧ v = .lit (.bool jump.isNone) ∧ st' = (if jump.isNone then .ready else .done) ∧
                      ((ex = .normal ∧ jump = none) ∨ (ex = .ret ∧ jump = some .ret) ∨ ∃ id, ex = .exit id ∧ jump = some (.exit id)) := by
                    cases ex with
                    | normal =>
                      replace h := updK_ok h; obtain ⟨H4, hT, h⟩ := h
                      cases h
                      exact ⟨_, _, hT, rfl, rfl, .inl ⟨rfl, rfl⟩⟩
                    | ret =>
                      replace h := updK_ok h; obtain ⟨H4, hT, h⟩ := h
                      cases h
                      exact ⟨_, _, hT, rfl, rfl, .inr (.inl ⟨rfl, rfl⟩)⟩
                    | exit id =>
                      replace h := updK_ok h; obtain ⟨H4, hT, h⟩ := h
                      cases h
                      exact ⟨_, _, hT, rfl, rfl, .inr (.inr ⟨id, rfl, rfl⟩)⟩
                  obtain ⟨st', jump, hT, rfl, hst', hj⟩ := hend
                  intro ρ w args' b sh N hh hb hargs
                  obtain ⟨r, hr1, hr2, hr3, hr4, hr5, hr6, hr7, hr8, hr9, ok1, ok2⟩ := hh.loop_at hb hob
                  have hasz : args'.size = r.params.size := by
                    have e1 := hargs.length
                    have e2 : r.params.size = ps.length := by rw [← hr6]; simp
                    simp only [Array.length_toList] at e1
                    omega
                  refine ⟨r.fn, _, _, _, run_yield hr1 hasz, fun m => ?_⟩
                  rw [hr7, hr8]
                  have htm : (r.params.zip args').foldl (fun tmps (x : Tmp × Value) => match x with | (t, a) => tmps.setIfInBounds t a) r.tmps = (ps.zip args'.toList).foldl (fun (tm : Array Value) (p : Tmp × Value) => tm.setIfInBounds p.1 p.2) r.tmps := by
                    rw [← Array.foldl_toList, Array.toList_zip, hr6]
                  obtain ⟨t1, t2⟩ := hset ρ args'.toList r.tmps hargs hr4 hr5
                  obtain ⟨_, sim1⟩ := sim_code EO RO as _ _ _ _ _ hx ok1
                  refine roundIn_of_wpIn trivial ?_
                  have fr0 : FR ρ (some b) ⟨s1, n, [], some l, f⟩ { tmps := (r.params.zip args').foldl (fun tmps (x : Tmp × Value) => match x with | (t, a) => tmps.setIfInBounds t a) r.tmps, defers := [] } := by
                    rw [htm]
                    exact ⟨t1, t2, .nil, .inr ⟨l, b, sh, N, rfl, hb, rfl⟩⟩
                  refine sim1 m ρ (some b) _ w _ hh fr0 fun e ρ1 a1 w1 he hfr1 hh1 hl1 => ?_
                  cases e <;> first | (cases he; done) | skip
                  have hb1 := hl1.ext _ _ hb
                  obtain ⟨q1, g1, g2, g3, g4, g5, g6, g7, g8, g9, _, _⟩ := hh1.loop_at hb1 hob1
                  obtain ⟨k1, k2⟩ := hh1.reloop hb1 hob1 g1 hT2
                  refine ⟨_, run_beginRound g1 g2, ?_⟩
                  have fnn : fr1.fn = f := (sim_code EO RO as _ _ _ _ _ hx ok1).1
                  obtain ⟨_, sim2⟩ := sim_code EO RO bd _ _ _ _ _ hy (by rw [fnn]; exact ok2)
                  have hH2 : HR E w0 ρ1 H2 (w1.putObj b (.loop { q1 with state := .busy })) := by
                    have : ({ q1 with state := .busy, pending := pend1 } : Loop) = { q1 with state := .busy } := by rw [← g3]
                    rw [← this]; exact k1
                  refine sim2 m ρ1 (some b) a1 _ _ hH2 hfr1 fun e ρ2 a2 w2 he hfr2 hh2 hl2 => ?_
                  have hb2 := hl2.ext _ _ hb1
                  obtain ⟨q3, j1, j2, j3, j4, j5, j6, j7, j8, j9, _, _⟩ := hh2.loop_at hb2 hob3
                  obtain ⟨m1, m2⟩ := hh2.reloop hb2 hob3 j1 hT
                  have hlat : Later ρ H ρ2 H' := ((hl1.trans k2).trans hl2).trans m2
                  have hlast : ∃ v' w', (Instr.endRound b jump).run P w2 = .ok v' w' ∧ ∃ u ρ', (Ending.returned v') = .returned u ∧ Rl ρ' (.lit (.bool jump.isNone)) u ∧ HR E w0 ρ' H' w' ∧ Later ρ H ρ' H' := by
                    refine ⟨_, _, run_endRound jump j1, _, ρ2, rfl, .lit _, ?_, hlat⟩
                    rw [hst'] at m1
                    exact m1
                  rcases hj with ⟨rfl, rfl⟩ | ⟨rfl, rfl⟩ | ⟨id, rfl, rfl⟩
                  · cases e <;> first | (cases he; done) | exact hlast
                  · cases e <;> first | (cases he; done) | exact hlast
                  · cases e <;> first | (cases he; done) | skip
                    have he' : id = _ := he
                    subst he'
                    exact hlast
                · cases h
            · cases h
          · cases h
    · cases h
  · cases h
end
end Go.Proofs.YtclljjfkaljdnaaGreatDoor
