/- The evaluator's operations: copy, clear, calls; all of them. No program in sight. -/
import Derived.Test.YtclljjfkaljdnaaGreatDoorE13
namespace Go.Proofs.YtclljjfkaljdnaaGreatDoor
open Go.RowKit

section
variable {P : Program} {E : Env} {s : Tr AV} {o : Oper} {H : AH} {r : ARes}

theorem lenS_ok {β : Type} {x : AV} {k : Nat → R β} {q : β} (h : lenS x k = .ok q) : ∃ n, k n = .ok q ∧ ∀ (ρ : Ren) xv, Rl ρ x xv → ∃ base c, xv = .slice base n c := by
  unfold lenS at h
  split at h
  · refine ⟨_, h, fun ρ xv hx => ?_⟩
    obtain ⟨b, sh, N, c, _, _, _, _, _, _, rfl⟩ := hx.inv_sl
    exact ⟨_, _, rfl⟩
  · exact ⟨0, h, fun ρ xv hx => ⟨_, _, hx.inv_lit⟩⟩
  · refine ⟨0, h, fun ρ xv hx => ?_⟩
    obtain ⟨a, c, rfl⟩ := hx.inv_esl
    exact ⟨_, _, rfl⟩
  · cases h
theorem firstK_ok {β : Type} {es m : Nat} {x : AV} {k : List AV → R β} {q : β} (h : firstK es m x H k = .ok q) :
    ∃ l, k l = .ok q ∧ l.length = m * es ∧ ∀ w0 ρ w xv, HR E w0 ρ H w → Rl ρ x xv → ∃ vs, (Builtin.firstCells es m xv).run P w = .ok vs.toArray w ∧ RlL ρ l vs := by
  unfold firstK at h
  split at h
  · rename_i id off es' n cap ex
    replace h := objK_ok h; obtain ⟨ob, hob, h⟩ := h
    split at h
    · rename_i c cs ro
      replace h := boolC_er h; obtain ⟨h1, h⟩ := h
      replace h := boolC_er h; obtain ⟨h2, h⟩ := h
      replace h := boolC_er h; obtain ⟨h5, h⟩ := h
      replace h := readK_spec h; obtain ⟨l, h3, h4, h⟩ := h
      have h2' : off + m * es ≤ c := by simpa [Nat.ble_eq, add_eq, mul_eq] using h2
      refine ⟨l, h, h3, fun w0 ρ w xv hr hx => ?_⟩
      obtain ⟨b, sh, N, c', hb, k1, k2, k3, k4, k5, rfl⟩ := hx.inv_sl
      obtain ⟨vs, g1, g2, g3⟩ := hr.read hb hob h2' h3 h4
      exact ⟨vs, run_firstCells_some w es m _ n c' vs g1 g3, g2⟩
    · cases h
  · cases h

theorem builtinK_copy (ts : List TypeId) (args : List AV) : builtinK E .copy ts args H = match ts, args with | t :: _, [d, x] => copyK E t d x H | _, _ => .er [77] := by
  unfold builtinK
  rcases ts with _ | ⟨t, _ | ⟨t', ts⟩⟩ <;> rcases args with _ | ⟨x, _ | ⟨y, _ | ⟨z, l⟩⟩⟩ <;> rfl
theorem builtinK_clear (ts : List TypeId) (args : List AV) : builtinK E .clear ts args H = match ts, args with | [t], [x] => clearK E t x H | _, _ => .er [77] := by
  unfold builtinK
  rcases ts with _ | ⟨t, _ | ⟨t', ts⟩⟩ <;> rcases args with _ | ⟨x, _ | ⟨y, l⟩⟩ <;> rfl

theorem boolMin (n n' : Nat) : boolC n' n (Nat.ble n n') = Nat.min n n' := by
  cases h : Nat.ble n n' with
  | true => rw [boolC_true]; have : n ≤ n' := by simpa [Nat.ble_eq] using h
            exact (Nat.min_eq_left this).symm
  | false =>
    rw [boolC_false]
    rcases Nat.lt_or_ge n' n with h' | h'
    · exact (Nat.min_eq_right (Nat.le_of_lt h')).symm
    · rw [Nat.ble_eq_true_of_le h'] at h; cases h

theorem wr_copy (EO : EnvOK P E) {args : Array Operand} {ts : Array TypeId} (ho : o.op = .call { callee := .builtin .copy, args := args, argTypes := ts })
    (h : opK E s (.call { callee := .builtin .copy, args := args, argTypes := ts }) H = .ok r) : Wr P E s o H r := by
  unfold opK at h
  dsimp only at h
  replace h := evL_ok h; obtain ⟨vs, hvs, h⟩ := h
  rw [builtinK_copy] at h
  have key : ∃ t ts' d x, ts.toList = t :: ts' ∧ vs = [d, x] ∧ copyK E t d x H = .ok r := by
    split at h
    · rename_i e; exact ⟨_, _, _, _, e, rfl, h⟩
    · cases h
  clear h
  obtain ⟨t, ts', d, x, hts, rfl, h⟩ := key
  obtain ⟨ox, oy, hl, hx, hy⟩ := f2_two hvs
  have hargs : args = #[ox, oy] := array_of_toList hl
  have hts0 : ts[0]? = some t := by rw [← Array.getElem?_toList, hts]; rfl
  have hop : ∀ z ∈ args.toList, z ∈ o.op.operands.toList := by
    intro z hz
    simp only [ho, Op.operands, Call.operands, Array.toList_append, List.mem_append]; exact .inr hz
  have hexec : ∀ (a : Act) (w w' : World) v, (Builtin.copy_ ts o.type #[a.eval ox, a.eval oy]).run P w = .ok v w' → (execOp a.eval o).run P w = .ok (.value v) w' := by
    intro a w w' v hw'
    rw [run_builtin ho]
    have : args.map a.eval = #[a.eval ox, a.eval oy] := by rw [hargs]; simp
    rw [this]
    simp only [builtin, Sem.run_bind, hw', Result.andThen_ok, Sem.run_pure]
  unfold copyK at h
  replace h := elemOf_ok h; obtain ⟨i, e, j, hi, hd, hj, h⟩ := h
  have T := EO.tt _ _ hj
  have hu : P.underlying t = some (.slice e) := by have := (EO.tt _ _ hi).und; rwa [hd] at this
  replace h := lenS_ok h; obtain ⟨n, h, hxl⟩ := h
  replace h := lenS_ok h; obtain ⟨n', h, hdl⟩ := h
  replace h := forceN_ok h
  rw [boolMin] at h
  cases hm : Nat.min n n' with
  | zero =>
    rw [hm] at h
    intro w0 ρ w a hh ct
    obtain ⟨bx, cx, e2⟩ := hxl ρ _ (ct.ev hy (hop _ (by simp [hargs])))
    obtain ⟨bd, cd, e1⟩ := hdl ρ _ (ct.ev hx (hop _ (by simp [hargs])))
    refine ⟨_, H, _, w, ρ, val_ok h, .inl (hexec a w w (.int .i64 0) ?_), .lit _, hh, Later.refl _ _⟩
    rw [e1, e2]
    unfold Builtin.copy_
    cases bx <;> cases bd <;> simp [hts0, Sem.run_bind, run_underlying hu, T.run_size, Builtin.lenOf, hm, Builtin.firstCells, loadCells, loadCellsFrom, storeCells, goInt]
  | succ m' =>
    rw [hm, natC_succ] at h
    rw [← hm] at h
    replace h := firstK_ok (P := P) (E := E) h; obtain ⟨new, h, hnl, hsrc⟩ := h
    split at h
    · rename_i id off es' len cap ex
      replace h := boolC_er h; obtain ⟨hes, h⟩ := h
      replace h := boolC_er h; obtain ⟨hall, h⟩ := h
      replace h := boolC_er h; obtain ⟨hml, h⟩ := h
      replace h := objK_ok h; obtain ⟨ob, hob, h⟩ := h
      have hes' : j.size = es' := by simpa using hes
      subst hes'
      split at h
      · rename_i c cs ro
        replace h := boolC_re h; obtain ⟨hro, h⟩ := h
        subst hro
        replace h := boolC_er h; obtain ⟨hle, h⟩ := h
        replace h := writeK_ok h; obtain ⟨cs', hcs', h⟩ := h
        replace h := updK_ok h; obtain ⟨H', hT, h⟩ := h
        have hle' : off + len * j.size ≤ c := by simpa [Nat.ble_eq, add_eq, mul_eq] using hle
        have hml' : Nat.min n n' ≤ len := Nat.le_of_ble_eq_true hml
        have hmm : Nat.min n n' * j.size ≤ len * j.size := Nat.mul_le_mul_right _ hml'
        intro w0 ρ w a hh ct
        obtain ⟨bx, cx, e2⟩ := hxl ρ _ (ct.ev hy (hop _ (by simp [hargs])))
        obtain ⟨news, hs, hrel⟩ := hsrc w0 ρ w _ hh (ct.ev hy (hop _ (by simp [hargs])))
        obtain ⟨bd, cd, e0⟩ := hdl ρ _ (ct.ev hx (hop _ (by simp [hargs])))
        obtain ⟨b, sh, N, cm, hb, k1, k2, k3, k4, k5, e1⟩ := (ct.ev hx (hop _ (by simp [hargs]))).inv_sl
        rw [e1] at e0
        cases e0
        obtain ⟨w', g1, g2, g3⟩ := hh.write (P := P) (off := off) hb hob (by rw [hnl]; omega) hrel (rlL_one hrel hall) hcs' hT
        refine ⟨_, H', _, w', ρ, val_ok h, .inl (hexec a w w' (.int .i64 (Nat.min n n')) ?_), .lit _, g2, g3⟩
        rw [e1]
        rw [e2] at hs ⊢
        unfold Builtin.copy_
        simp [hts0, Sem.run_bind, run_underlying hu, T.run_size, Builtin.lenOf, hs, g1, goInt]
      · cases h
    · cases h

theorem zero_cells {t : TypeId} {i : TI} (T : TIOK P t i) {zv : Value} (hz : i.zero = zv.cells.toList.map AV.lit) : ∀ u ∈ zv.cells.toList, u.oneCell' = true := by
  intro u hu
  have hc := T.cell
  rw [hz] at hc
  have := allCell_spec hc (.lit u) (List.mem_map.2 ⟨u, hu, rfl⟩)
  exact isCell_one (ρ := fun _ => none) (.lit u) this

theorem wr_clear (EO : EnvOK P E) {args : Array Operand} {ts : Array TypeId} (ho : o.op = .call { callee := .builtin .clear, args := args, argTypes := ts })
    (h : opK E s (.call { callee := .builtin .clear, args := args, argTypes := ts }) H = .ok r) : Wr P E s o H r := by
  unfold opK at h
  dsimp only at h
  replace h := evL_ok h; obtain ⟨vs, hvs, h⟩ := h
  rw [builtinK_clear] at h
  have key : ∃ t x, ts.toList = [t] ∧ vs = [x] ∧ clearK E t x H = .ok r := by
    split at h
    · rename_i e; exact ⟨_, _, e, rfl, h⟩
    · cases h
  clear h
  obtain ⟨t, x, hts, rfl, h⟩ := key
  obtain ⟨ox, hl, hx⟩ := f2_one hvs
  have hargs : args = #[ox] := array_of_toList hl
  have hts0 : ts[0]? = some t := by rw [← Array.getElem?_toList, hts]; rfl
  have hop : ∀ z ∈ args.toList, z ∈ o.op.operands.toList := by
    intro z hz
    simp only [ho, Op.operands, Call.operands, Array.toList_append, List.mem_append]; exact .inr hz
  have hexec : ∀ (a : Act) (w w' : World) v, (Builtin.clear_ ts o.type #[a.eval ox]).run P w = .ok v w' → (execOp a.eval o).run P w = .ok (.value v) w' := by
    intro a w w' v hw'
    rw [run_builtin ho]
    have : args.map a.eval = #[a.eval ox] := by rw [hargs]; simp
    rw [this]
    simp only [builtin, Sem.run_bind, hw', Result.andThen_ok, Sem.run_pure]
  unfold clearK at h
  replace h := elemOf_ok h; obtain ⟨i, e, j, hi, hd, hj, h⟩ := h
  have T := EO.tt _ _ hj
  have hu : P.underlying t = some (.slice e) := by have := (EO.tt _ _ hi).und; rwa [hd] at this
  split at h
  · rename_i id off es' len cap ex
    cases hlen : len with
    | zero =>
      rw [hlen] at h
      intro w0 ρ w a hh ct
      obtain ⟨b, sh, N, c, hb, k1, k2, k3, k4, k5, e1⟩ := (ct.ev hx (hop _ (by simp [hargs]))).inv_sl
      refine ⟨_, H, _, w, ρ, val_ok h, .inl (hexec a w w (.tuple #[]) ?_), .lit _, hh, Later.refl _ _⟩
      rw [e1, hlen]
      unfold Builtin.clear_
      simp [hts0, run_underlying hu]
    | succ len' =>
      rw [hlen, natC_succ] at h
      rw [← hlen] at h
      replace h := boolC_er h; obtain ⟨hes, h⟩ := h
      have hes' : j.size = es' := by simpa using hes
      subst hes'
      replace h := objK_ok h; obtain ⟨ob, hob, h⟩ := h
      split at h
      · rename_i m cs ro
        replace h := boolC_re h; obtain ⟨hro, h⟩ := h
        subst hro
        replace h := boolC_er h; obtain ⟨hle, h⟩ := h
        replace h := repK_ok T.len h; obtain ⟨cs', hcs', h⟩ := h
        replace h := updK_ok h; obtain ⟨H', hT, h⟩ := h
        have hle' : off + len * j.size ≤ m := by simpa [Nat.ble_eq, add_eq, mul_eq] using hle
        intro w0 ρ w a hh ct
        obtain ⟨b, sh, N, c, hb, k1, k2, k3, k4, k5, e1⟩ := (ct.ev hx (hop _ (by simp [hargs]))).inv_sl
        obtain ⟨zv, hz, hzz, _⟩ := T.run_zero w
        have hzs : zv.cells.size = j.size := by have := T.len; rw [hzz] at this; simpa using this
        have hnl : (Builtin.zeroCells zv.cells len).toList.length = len * j.size := by rw [Array.length_toList, zeroCells_size, hzs]
        have hcell : ∀ k, k < len * j.size → (Builtin.zeroCells zv.cells len).toList[k]? = zv.cells[k % j.size]? := by
          intro k hk
          have hpos : 0 < j.size := by rcases Nat.eq_zero_or_pos j.size with h | h; (rw [h] at hk; simp at hk); exact h
          have hlt : k % j.size < zv.cells.size := by rw [hzs]; exact Nat.mod_lt _ hpos
          rw [Array.getElem?_toList]
          unfold Builtin.zeroCells
          simp only [Array.getElem?_map, hzs]
          rw [Array.getElem?_range, if_pos hk]
          simp only [Option.map_some]
          rw [getElem!_pos zv.cells _ hlt, Array.getElem?_eq_getElem hlt]
        have hone : ∀ u ∈ (Builtin.zeroCells zv.cells len).toList, u.oneCell' = true := by
          intro u hu2
          obtain ⟨k, hk⟩ := List.getElem?_of_mem hu2
          have hlt := (List.getElem?_eq_some_iff.1 hk).1
          rw [hcell k (by omega)] at hk
          exact zero_cells T hzz u (by rw [← Array.getElem?_toList] at hk; exact List.mem_of_getElem? hk)
        obtain ⟨w', g1, g2, g3⟩ := hh.write (P := P) (off := off) (l := (Builtin.zeroCells zv.cells len).toList.map AV.lit) hb hob (by rw [List.length_map, hnl]; omega) (rl_lits _) hone (fun k => by
          rw [hcs' k, List.length_map, hnl]
          by_cases hk : off ≤ k ∧ k < off + len * j.size
          · rw [if_pos hk, if_pos hk, List.getElem?_map, hcell (k - off) (by omega), hzz, List.getElem?_map, Array.getElem?_toList]
          · rw [if_neg hk, if_neg hk]) hT
        refine ⟨_, H', _, w', ρ, val_ok h, .inl (hexec a w w' (.tuple #[]) ?_), .lit _, g2, g3⟩
        rw [e1, hlen]
        rw [hlen] at g1
        unfold Builtin.clear_
        simp [hts0, Sem.run_bind, run_underlying hu, hz, g1]
      · cases h
  · intro w0 ρ w a hh ct
    have e1 := (ct.ev hx (hop _ (by simp [hargs]))).inv_lit
    refine ⟨_, H, _, w, ρ, val_ok h, .inl (hexec a w w (.tuple #[]) ?_), .lit _, hh, Later.refl _ _⟩
    rw [e1]
    unfold Builtin.clear_
    simp [hts0, run_underlying hu]
  · intro w0 ρ w a hh ct
    obtain ⟨b, c, e1⟩ := (ct.ev hx (hop _ (by simp [hargs]))).inv_esl
    refine ⟨_, H, _, w, ρ, val_ok h, .inl (hexec a w w (.tuple #[]) ?_), .lit _, hh, Later.refl _ _⟩
    rw [e1]
    unfold Builtin.clear_
    simp [hts0, run_underlying hu]
  · cases h

/-! ### calls -/
/-- A call, or a round of a loop. -/
def Ca (P : Program) (E : Env) (s : Tr AV) (o : Oper) (H : AH) (r : ARes) : Prop :=
  (∃ f args, r = .call f args H ∧ ∀ ρ w a, Ctx E ρ s a o.op → ∃ args' : Array Value, RlL ρ args args'.toList ∧ (execOp a.eval o).run P w = (callFunc f args').run P w) ∨
  (∃ l args, r = .round l args H ∧ ∀ ρ w a, Ctx E ρ s a o.op → ∃ (args' : Array Value) (b sh N : Nat), ρ l = some (b, sh, N) ∧ RlL ρ args args'.toList ∧ (execOp a.eval o).run P w = (Instr.yield b args').run P w)

theorem ca_call {f : Operand} {args : Array Operand} {ts : Array TypeId} (ho : o.op = .call { callee := .value f, args := args, argTypes := ts })
    (h : opK E s (.call { callee := .value f, args := args, argTypes := ts }) H = .ok r) : Ca P E s o H r := by
  unfold opK at h
  dsimp only at h
  replace h := evK_ok h; obtain ⟨fv, hfv, h⟩ := h
  replace h := evL_ok h; obtain ⟨vs, hvs, h⟩ := h
  have hopf : f ∈ o.op.operands.toList := by simp [ho, Op.operands, Call.operands]
  have hop : ∀ z ∈ args.toList, z ∈ o.op.operands.toList := by
    intro z hz
    simp only [ho, Op.operands, Call.operands, Array.toList_append, List.mem_append]; exact .inr hz
  unfold callK at h
  split at h
  · rename_i g first captured
    split at h
    · rename_i n
      rw [appK_eq, appK_eq] at h
      cases h
      refine .inl ⟨_, _, rfl, fun ρ w a ct => ?_⟩
      obtain ⟨l', m', h1, h2, e1⟩ := (ct.ev hfv hopf).inv_fn
      have h3 := ct.evL hvs hop
      refine ⟨(l' ++ args.map a.eval) ++ m', ?_, ?_⟩
      · simp only [Array.toList_append, Array.toList_map, List.append_assoc]
        exact h1.append (h3.append h2)
      · simp [execOp, ho, resolve, e1, Deferred.ofValue, invoke]
    · rename_i l
      rw [appK_eq] at h
      cases h
      refine .inr ⟨_, _, rfl, fun ρ w a ct => ?_⟩
      obtain ⟨b, sh, N, h1, rfl, rfl, e1⟩ := (ct.ev hfv hopf).inv_yld
      have h3 := ct.evL hvs hop
      refine ⟨args.map a.eval, b, sh, N, h1, by simpa using h3, ?_⟩
      simp [execOp, ho, resolve, e1, Deferred.ofValue, invoke]
    · cases h
  · cases h

/-! ### all -/
theorem op_cls (EO : EnvOK P E) (h : opK E s o.op H = .ok r) : match cls o.op with | .pu => Pu P E s o H r | .ro => Ro P E s o H r | .al => Al P E s o H r | .wr => Wr P E s o H r ∨ Ca P E s o H r := by
  cases ho : o.op <;> rw [ho] at h <;> first
    | exact pu_move (.inl ho) h
    | exact pu_move (.inr ho) h
    | exact pu_pick ho h
    | exact pu_build EO ho h
    | exact pu_nilCheck ho h
    | exact pu_binOp EO ho h
    | exact pu_unOp ho h
    | exact pu_convert EO ho h
    | exact pu_makeFunc ho h
    | exact pu_slice EO ho h
    | exact pu_fieldAddr EO ho h
    | exact pu_field EO ho h
    | exact pu_indexAddr EO ho h
    | exact pu_index EO ho h
    | exact pu_extract ho h
    | exact ro_load EO ho h
    | exact ro_lookup EO ho h
    | exact al_alloc EO ho h
    | exact al_box ho h
    | exact al_buildSlice EO ho h
    | exact al_makeMap EO ho h
    | exact al_makeSlice EO ho h
    | exact .inl (wr_store EO ho h)
    | exact .inl (wr_update EO (.inl ho) h)
    | exact .inl (wr_update EO (.inr ho) h)
    | exact .inl (wr_entry EO ho h)
    | exact .inl (wr_stamp ho h)
    | (cases h; done)
    | skip
  rename_i c
  obtain ⟨callee, args, ts⟩ := c
  cases callee with
  | value f => exact .inr (ca_call ho h)
  | invoke x m => cases h
  | builtin b =>
    cases b <;> first
      | exact pu_minmax (.inl rfl) ho h
      | exact pu_minmax (.inr rfl) ho h
      | exact ro_len EO ho h
      | exact .inl (wr_append EO ho h)
      | exact .inl (wr_delete EO ho h)
      | exact .inl (wr_copy EO ho h)
      | exact .inl (wr_clear EO ho h)
      | (exfalso
         unfold opK at h
         dsimp only at h
         replace h := evL_ok h; obtain ⟨vs, hvs, h⟩ := h
         unfold builtinK at h
         rcases hts : ts.toList with _ | ⟨t, _ | ⟨t', _ | ⟨t'', ts'⟩⟩⟩ <;> rw [hts] at h <;> rcases vs with _ | ⟨x, _ | ⟨y, _ | ⟨z, l⟩⟩⟩ <;> cases h)
end
end Go.Proofs.YtclljjfkaljdnaaGreatDoor
