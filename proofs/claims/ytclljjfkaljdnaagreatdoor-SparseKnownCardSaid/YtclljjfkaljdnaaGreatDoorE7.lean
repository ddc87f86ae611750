/- The evaluator's operations that look at no memory: addresses, slices, literals, operators. No program in sight. -/
import Derived.Test.YtclljjfkaljdnaaGreatDoorE6
namespace Go.Proofs.YtclljjfkaljdnaaGreatDoor
open Go.RowKit

section
variable {P : Program} {E : Env} {s : Tr AV} {o : Oper} {H : AH} {r : ARes}

theorem natV {ρ : Ren} {j : IntKind} {n : Nat} {v : Value} (h : Rl ρ (.lit (.int j (.ofNat n))) v) : v = .int j n := h.inv_lit

theorem pu_fieldAddr (EO : EnvOK P E) {t : TypeId} {x : Operand} {f : Nat} (ho : o.op = .fieldAddr t x f) (h : opK E s (.fieldAddr t x f) H = .ok r) : Pu P E s o H r := by
  unfold opK at h
  dsimp only at h
  replace h := evK_ok h; obtain ⟨v, hv, h⟩ := h
  split at h
  · rename_i id off
    replace h := fieldK_ok h; obtain ⟨i, fs, fd, j, hi, hd, hf, hj, h⟩ := h
    replace h := natC_er h; obtain ⟨m, hm, h⟩ := h
    replace h := forceN_ok h
    have T := EO.tt _ _ hj
    have hu : P.underlying t = some (.struct fs) := by have := (EO.tt _ _ hi).und; rwa [hd] at this
    refine ⟨_, val_ok h, fun ρ a w c => ?_⟩
    obtain ⟨b, s', N, hb, e⟩ := (c.ev hv (by simp [ho, Op.operands])).inv_ptr
    refine ⟨.pointer (some ⟨b, s' + (off + fd.offset), none⟩), ?_, .ptr hb⟩
    have hfp : (fieldPlace ⟨b, s' + off, none⟩ fd).run P w = .ok ⟨b, s' + (off + fd.offset), none⟩ w := by
      unfold fieldPlace
      simp only [Sem.run_bind, T.run_size w, Result.andThen_ok, hm]
      rw [if_neg (by omega), addr_of, Nat.add_assoc]; rfl
    simp [execOp, ho, e, Instr.fieldAt, run_underlying hu, hf, Instr.sureAddr, hfp]
  · cases h

theorem mul_eq (a b : Nat) : Nat.mul a b = a * b := rfl
theorem add_eq (a b : Nat) : Nat.add a b = a + b := rfl
theorem sub_eq (a b : Nat) : Nat.sub a b = a - b := rfl

theorem pu_indexAddr (EO : EnvOK P E) {t : TypeId} {x y : Operand} (ho : o.op = .indexAddr t x y) (h : opK E s (.indexAddr t x y) H = .ok r) : Pu P E s o H r := by
  unfold opK at h
  dsimp only at h
  replace h := evK_ok h; obtain ⟨v, hv, h⟩ := h
  replace h := evK_ok h; obtain ⟨u, hu, h⟩ := h
  replace h := natK_ok h; obtain ⟨j, n, rfl, h⟩ := h
  unfold indexAddrK at h
  replace h := tiK_ok h; obtain ⟨i, hi, h⟩ := h
  have Tt := EO.tt _ _ hi
  split at h
  · rename_i e id off es len cap ex hd
    replace h := tiK_ok h; obtain ⟨j', hj, h⟩ := h
    replace h := boolC_er h; obtain ⟨h1, h⟩ := h
    replace h := boolC_er h; obtain ⟨h2, h⟩ := h
    replace h := forceN_ok h
    have T := EO.tt _ _ hj
    have h1' : es = j'.size := by simpa using h1
    have h2' : n < len := by rw [Nat.blt_eq] at h2; exact h2
    have hu' : P.underlying t = some (.slice e) := by have := Tt.und; rwa [hd] at this
    refine ⟨_, val_ok h, fun ρ a w c => ?_⟩
    obtain ⟨b, s', N, cm, hb, _, _, _, _, _, e1⟩ := (c.ev hv (by simp [ho, Op.operands])).inv_sl
    have e2 := natV (c.ev hu (by simp [ho, Op.operands]))
    refine ⟨.pointer (some ⟨b, s' + (off + n * es), none⟩), ?_, .ptr hb⟩
    have hlt : (0 : Int) ≤ (n : Int) ∧ (n : Int) < ((len : Nat) : Int) := by omega
    simp only [execOp, ho, e1, e2, Instr.indexAt, asIntOf, Sem.run_bind, Sem.run_pure, run_underlying hu', Result.andThen_ok, hlt, and_self, if_true, T.run_size w, Int.toNat_natCast]
    rw [addr_of, ← h1', Nat.add_assoc]
  · rename_i m e id off hd
    replace h := tiK_ok h; obtain ⟨j', hj, h⟩ := h
    replace h := boolC_er h; obtain ⟨h2, h⟩ := h
    replace h := forceN_ok h
    have T := EO.tt _ _ hj
    have h2' : n < m := by rw [Nat.blt_eq] at h2; exact h2
    have hu' : P.underlying t = some (.array m e) := by have := Tt.und; rwa [hd] at this
    refine ⟨_, val_ok h, fun ρ a w c => ?_⟩
    obtain ⟨b, s', N, hb, e1⟩ := (c.ev hv (by simp [ho, Op.operands])).inv_ptr
    have e2 := natV (c.ev hu (by simp [ho, Op.operands]))
    refine ⟨.pointer (some ⟨b, s' + (off + n * j'.size), none⟩), ?_, .ptr hb⟩
    have hlt : (0 : Int) ≤ (n : Int) ∧ (n : Int) < ((m : Nat) : Int) := by omega
    simp only [execOp, ho, e1, e2, Instr.indexAt, asIntOf, Sem.run_bind, Sem.run_pure, run_underlying hu', Result.andThen_ok, Instr.sureAddr, hlt, and_self, if_true, T.run_size w, Int.toNat_natCast]
    rw [addr_of, Nat.add_assoc]
  · cases h

theorem run_part' {t : TypeId} {i : TI} (T : TIOK P t i) {off : Nat} {l : List AV} {H : AH} (h : partK off i.size (isAggD i.desc) l (fun v => val v H) = .ok r) :
    ∃ u, r = .val u H ∧ ∀ (l' : Array Value) (ρ : Ren), RlL ρ l l'.toList → ∀ w, ∃ v, (part t l' off).run P w = .ok v w ∧ Rl ρ u v := by
  rcases partK_ok h with ⟨ha, u, h1, h2⟩ | ⟨ha, h1, h2⟩
  all_goals
    refine ⟨_, val_ok h2, fun l' ρ hl w => ?_⟩
    obtain ⟨u', v, h3, h4, h5⟩ := run_part T hl h w
    have := val_ok h3
    have h2' := val_ok h2
    rw [this] at h2'
    cases h2'
    exact ⟨v, h4, h5⟩

theorem pu_index (EO : EnvOK P E) {t : TypeId} {x y : Operand} (ho : o.op = .index t x y) (h : opK E s (.index t x y) H = .ok r) : Pu P E s o H r := by
  unfold opK at h
  dsimp only at h
  replace h := evK_ok h; obtain ⟨v, hv, h⟩ := h
  replace h := evK_ok h; obtain ⟨u, hu, h⟩ := h
  replace h := natK_ok h; obtain ⟨j, n, rfl, h⟩ := h
  unfold indexK at h
  replace h := tiK_ok h; obtain ⟨i, hi, h⟩ := h
  have Tt := EO.tt _ _ hi
  split at h
  · rename_i str hd
    replace h := nthK_ok h; obtain ⟨b, hb, h⟩ := h
    have hu' : P.underlying t = some .string := by have := Tt.und; rwa [hd] at this
    refine ⟨_, valS_ok h, fun ρ a w c => ⟨_, ?_, .lit _⟩⟩
    have e1 := (c.ev hv (by simp [ho, Op.operands])).inv_lit
    have e2 := natV (c.ev hu (by simp [ho, Op.operands]))
    have hb' : str[n]? = some b := by
      have h0 : str.data[n]? = some b := by simpa using hb
      obtain ⟨h1, h2⟩ := Array.getElem?_eq_some_iff.1 h0
      show (if h : n < str.size then some str[n] else none) = some b
      exact (dif_pos (show n < str.size from h1)).trans (congrArg some h2)
    simp [execOp, ho, e1, e2, Instr.index, asIntOf, run_underlying hu', hb']
  · rename_i m e l hd
    replace h := tiK_ok h; obtain ⟨j', hj, h⟩ := h
    replace h := boolC_er h; obtain ⟨h2, h⟩ := h
    have T := EO.tt _ _ hj
    have h2' : n < m := by rw [Nat.blt_eq] at h2; exact h2
    have hu' : P.underlying t = some (.array m e) := by have := Tt.und; rwa [hd] at this
    obtain ⟨u, hr, key⟩ := run_part' T h
    refine ⟨u, hr, fun ρ a w c => ?_⟩
    obtain ⟨l', hl, e1⟩ := (c.ev hv (by simp [ho, Op.operands])).inv_agg
    have e2 := natV (c.ev hu (by simp [ho, Op.operands]))
    obtain ⟨v, h3, h4⟩ := key l' ρ hl w
    refine ⟨v, ?_, h4⟩
    have hlt : (0 : Int) ≤ (n : Int) ∧ (n : Int) < ((m : Nat) : Int) := by omega
    simp only [execOp, ho, e1, e2, Instr.index, asIntOf, Sem.run_bind, Sem.run_pure, run_underlying hu', Result.andThen_ok, hlt, and_self, if_true, T.run_size w, Int.toNat_natCast]
    have h3' : (part e l' (n * j'.size)).run P w = .ok v w := h3
    rw [h3']; rfl
  · cases h

/-! ### slices of slices -/
/-- A bound, as the machine takes it. -/
theorem run_bound {ρ : Ren} {x : Operand} {a : Act} {j : IntKind} {n : Nat} {y : Nat} {code : BoundsCode} (h : Rl ρ (.lit (.int j (.ofNat n))) (a.eval x)) (hn : n ≤ y) (w : World) :
    (Instr.sliceBound (a.eval x) y code).run P w = .ok n w := by
  rw [natV h]
  unfold Instr.sliceBound
  simp only [asIntOf, Sem.run_bind, Sem.run_pure, Result.andThen_ok]
  rw [if_pos ⟨by omega, by omega⟩]
  simp
/-- A bound that may not be given. -/
def Bd (E : Env) (s : Tr AV) (x : Option Operand) (d n : Nat) : Prop := (x = none ∧ n = d) ∨ ∃ y j, x = some y ∧ Ev E s y (.lit (.int j (.ofNat n)))
theorem run_bounds {lo hi mx : Option Operand} {len cap l h m c : Nat} {a : Act} {ρ : Ren} (hlo : Bd E s lo 0 l) (hhi : Bd E s hi len h) (hmx : Bd E s mx cap m) (hH : mx.isSome = true → hi.isSome = true)
    (hs : ∀ y, (lo = some y ∨ hi = some y ∨ mx = some y) → ∀ v, Ev E s y v → Rl ρ v (a.eval y)) (h1 : l ≤ h) (h2 : h ≤ m) (h3 : m ≤ c) (hcap : mx = none → m = cap ∧ cap ≤ c ∧ h ≤ cap) (w : World) :
    ∃ m', (Instr.sliceBounds true len c (lo.map a.eval) (hi.map a.eval) (mx.map a.eval)).run P w = .ok (l, h, m') w ∧ ((mx = none ∧ m' = c) ∨ (mx.isSome = true ∧ m' = m)) := by
  unfold Instr.sliceBounds
  rcases hmx with ⟨rfl, rfl⟩ | ⟨ym, jm, rfl, hm⟩
  · refine ⟨c, ?_, .inl ⟨rfl, rfl⟩⟩
    rcases hhi with ⟨rfl, rfl⟩ | ⟨yh, jh, rfl, hh⟩
    · rcases hlo with ⟨rfl, rfl⟩ | ⟨yl, jl, rfl, hl⟩
      · simp
      · have := run_bound (P := P) (code := .sliceB) (hs yl (by simp) _ hl) h1 w
        simp [this]
    · have hh' := run_bound (P := P) (y := c) (code := .sliceAcap) (hs yh (by simp) _ hh) (by omega) w
      rcases hlo with ⟨rfl, rfl⟩ | ⟨yl, jl, rfl, hl⟩
      · simp [hh']
      · have := run_bound (P := P) (code := .sliceB) (hs yl (by simp) _ hl) h1 w
        simp [this, hh']
  · refine ⟨m, ?_, .inr ⟨rfl, rfl⟩⟩
    have hm' := run_bound (P := P) (y := c) (code := .slice3Acap) (hs ym (by simp) _ hm) h3 w
    rcases hhi with ⟨rfl, rfl⟩ | ⟨yh, jh, rfl, hh⟩
    · simp at hH
    · have hh' := run_bound (P := P) (y := m) (code := .slice3B) (hs yh (by simp) _ hh) h2 w
      rcases hlo with ⟨rfl, rfl⟩ | ⟨yl, jl, rfl, hl⟩
      · simp [hh', hm']
      · have := run_bound (P := P) (code := .slice3C) (hs yl (by simp) _ hl) h1 w
        simp [this, hh', hm']

theorem natC_succ {β : Type} (z : β) (f : Nat → β) (n : Nat) : natC z f (n + 1) = f n := rfl
theorem bd_ok {β : Type} {x : Option Operand} {d : Nat} {k : Nat → R β} {q : β} (h : optK E s x d k = .ok q) : ∃ n, Bd E s x d n ∧ k n = .ok q := by
  obtain ⟨n, h1, h2⟩ := optK_ok h
  exact ⟨n, h2, h1⟩

theorem pu_slice (EO : EnvOK P E) {t : TypeId} {x : Operand} {lo hi mx : Option Operand} (ho : o.op = .slice t x lo hi mx) (h : opK E s (.slice t x lo hi mx) H = .ok r) : Pu P E s o H r := by
  unfold opK at h
  dsimp only at h
  replace h := evK_ok h; obtain ⟨v, hv, h⟩ := h
  unfold sliceK at h
  replace h := elemOf_ok h; obtain ⟨i, e, j, hi', hd, hj, h⟩ := h
  have T := EO.tt _ _ hj
  have hu : P.underlying t = some (.slice e) := by have := (EO.tt _ _ hi').und; rwa [hd] at this
  have hrun : ∀ (a : Act) (base : Option Addr) (n c : Nat) (w : World) (l h m : Nat), a.eval x = .slice base n c →
      (Instr.sliceBounds true n c (lo.map a.eval) (hi.map a.eval) (mx.map a.eval)).run P w = .ok (l, h, m) w →
      (execOp a.eval o).run P w = .ok (.value (.slice (if m = l then base else base.map (·.add (l * j.size))) (h - l) (m - l))) w := by
    intro a base n c w l h m e1 e2
    simp only [execOp, ho, e1, Instr.sliceAt, Instr.slice, Sem.run_bind, run_underlying hu, Result.andThen_ok, e2, T.run_size w, Sem.run_pure]
  have hops : ∀ y, (lo = some y ∨ hi = some y ∨ mx = some y) → y ∈ o.op.operands.toList := by
    intro y hy
    simp only [ho, Op.operands, Array.toList_append, List.mem_append, Option.toList_toArray]
    rcases hy with rfl | rfl | rfl <;> simp
  split at h
  · rename_i id off es len cap ex
    replace h := boolC_er h; obtain ⟨h1, h⟩ := h
    have h1' : j.size = es := by simpa using h1
    subst h1'
    replace h := bd_ok h; obtain ⟨hh, hbh, h⟩ := h
    replace h := bd_ok h; obtain ⟨ll, hbl, h⟩ := h
    split at h
    · replace h := boolC_er h; obtain ⟨h2, h⟩ := h
      replace h := boolC_er h; obtain ⟨h3, h⟩ := h
      have h2' : hh ≤ cap := by simpa [Nat.ble_eq] using h2
      have h3' : ll ≤ hh := by simpa [Nat.ble_eq] using h3
      replace h := forceN_ok h
      replace h := forceN_ok h
      rw [sub_eq, sub_eq] at h
      have go : ∀ (ρ : Ren) (a : Act) (w : World), Ctx E ρ s a o.op → ∃ b sh N c, ρ id = some (b, sh, N) ∧ (ex = true → c = cap) ∧ cap ≤ c ∧ len ≤ cap ∧ sh + off + c * j.size ≤ N ∧ c ≤ maxLen ∧
          (execOp a.eval o).run P w = .ok (.value (.slice (if c = ll then some ⟨b, sh + off, none⟩ else some ⟨b, sh + off + ll * j.size, none⟩) (hh - ll) (c - ll))) w := by
        intro ρ a w ct
        obtain ⟨b, sh, N, c, hb, k1, k2, k3, k4, k5, e1⟩ := (ct.ev hv (by simp [ho, Op.operands])).inv_sl
        obtain ⟨m', hr, hm'⟩ := run_bounds (P := P) (c := c) (mx := none) (cap := cap) (m := cap) hbl hbh (.inl ⟨rfl, rfl⟩) (by simp) (fun y hy u hu' => ct.ev hu' (hops y hy)) h3' h2' k2 (fun _ => ⟨rfl, k2, h2'⟩) w
        obtain ⟨_, rfl⟩ := hm'.resolve_right (by simp)
        refine ⟨b, sh, N, m', hb, k1, k2, k3, k4, k5, ?_⟩
        rw [hrun a _ len m' w ll hh m' e1 hr]
        simp only [Option.map_some, addr_of]
      cases hc : cap - ll with
      | zero =>
        rw [hc] at h
        have hcl : ll = cap := by omega
        have hhl : hh - ll = 0 := by omega
        rw [hhl] at h
        cases hl : ll with
        | zero =>
          rw [hl] at h
          refine ⟨_, val_ok h, fun ρ a w ct => ?_⟩
          obtain ⟨b, sh, N, c, hb, k1, k2, k3, k4, k5, e1⟩ := go ρ a w ct
          refine ⟨_, e1, ?_⟩
          rw [hhl]
          have e3 : (if c = ll then some (⟨b, sh + off, none⟩ : Addr) else some ⟨b, sh + off + ll * j.size, none⟩) = some ⟨b, sh + off, none⟩ := by
            split
            · rfl
            · rw [hl]; simp
          rw [e3]
          exact .sl hb (fun hx => by have := k1 hx; omega) (Nat.zero_le _) (Nat.le_refl _) (by rw [hl]; exact k4) (by omega)
        | succ l' =>
          rw [hl] at h
          cases hex : ex with
          | true =>
            rw [hex] at h
            refine ⟨_, val_ok h, fun ρ a w ct => ?_⟩
            obtain ⟨b, sh, N, c, hb, k1, k2, k3, k4, k5, e1⟩ := go ρ a w ct
            refine ⟨_, e1, ?_⟩
            have hcc := k1 hex
            rw [if_pos (by omega), hhl]
            exact .sl hb (fun _ => by omega) (Nat.zero_le _) (Nat.le_refl _) (by rw [hcc, hcl]; simp; omega) (by omega)
          | false =>
            rw [hex] at h
            refine ⟨_, val_ok h, fun ρ a w ct => ?_⟩
            obtain ⟨b, sh, N, c, hb, k1, k2, k3, k4, k5, e1⟩ := go ρ a w ct
            refine ⟨_, e1, ?_⟩
            rw [hhl]
            split <;> exact .esl
      | succ c' =>
        rw [hc, natC_succ] at h
        replace h := forceN_ok h
        refine ⟨_, val_ok h, fun ρ a w ct => ?_⟩
        obtain ⟨b, sh, N, c, hb, k1, k2, k3, k4, k5, e1⟩ := go ρ a w ct
        refine ⟨_, e1, ?_⟩
        rw [if_neg (by omega), Nat.add_assoc]
        have e4 : (c - ll) * j.size + ll * j.size = c * j.size := by rw [← Nat.add_mul]; congr 1; omega
        refine .sl hb (fun hx => by have := k1 hx; omega) (by omega) (by omega) ?_ (by omega)
        rw [add_eq, mul_eq]; omega
    · rename_i ym
      replace h := evK_ok h; obtain ⟨vm, hvm, h⟩ := h
      replace h := natK_ok h; obtain ⟨jm, mm, rfl, h⟩ := h
      replace h := boolC_er h; obtain ⟨h0, h⟩ := h
      replace h := boolC_er h; obtain ⟨h4, h⟩ := h
      replace h := boolC_er h; obtain ⟨h2, h⟩ := h
      replace h := boolC_er h; obtain ⟨h3, h⟩ := h
      have h2' : hh ≤ mm := by simpa [Nat.ble_eq] using h2
      have h3' : ll ≤ hh := by simpa [Nat.ble_eq] using h3
      have h4' : mm ≤ cap := by simpa [Nat.ble_eq] using h4
      replace h := forceN_ok h
      replace h := forceN_ok h
      rw [sub_eq, sub_eq] at h
      have go : ∀ (ρ : Ren) (a : Act) (w : World), Ctx E ρ s a o.op → ∃ b sh N c, ρ id = some (b, sh, N) ∧ cap ≤ c ∧ sh + off + c * j.size ≤ N ∧ c ≤ maxLen ∧
          (execOp a.eval o).run P w = .ok (.value (.slice (if mm = ll then some ⟨b, sh + off, none⟩ else some ⟨b, sh + off + ll * j.size, none⟩) (hh - ll) (mm - ll))) w := by
        intro ρ a w ct
        obtain ⟨b, sh, N, c, hb, k1, k2, k3, k4, k5, e1⟩ := (ct.ev hv (by simp [ho, Op.operands])).inv_sl
        obtain ⟨m', hr, hm'⟩ := run_bounds (P := P) (c := c) (mx := some ym) (cap := cap) (m := mm) hbl hbh (.inr ⟨ym, jm, rfl, hvm⟩) (fun _ => h0) (fun y hy u hu' => ct.ev hu' (hops y hy)) h3' h2' (by omega) (by simp) w
        obtain ⟨_, rfl⟩ := hm'.resolve_left (by simp)
        refine ⟨b, sh, N, c, hb, k2, k4, k5, ?_⟩
        rw [hrun a _ len c w ll hh m' e1 hr]
        simp only [Option.map_some, addr_of]
      cases hc : mm - ll with
      | zero =>
        rw [hc] at h
        refine ⟨_, val_ok h, fun ρ a w ct => ?_⟩
        obtain ⟨b, sh, N, c, hb, k2, k4, k5, e1⟩ := go ρ a w ct
        refine ⟨_, e1, ?_⟩
        rw [if_pos (by omega)]
        have : hh - ll = 0 := by omega
        rw [this]
        exact .sl hb (fun _ => by omega) (Nat.zero_le _) (Nat.le_refl _) (by rw [hc]; simp; omega) (by omega)
      | succ c' =>
        rw [hc, natC_succ] at h
        replace h := forceN_ok h
        refine ⟨_, val_ok h, fun ρ a w ct => ?_⟩
        obtain ⟨b, sh, N, c, hb, k2, k4, k5, e1⟩ := go ρ a w ct
        refine ⟨_, e1, ?_⟩
        rw [if_neg (by omega), Nat.add_assoc]
        have e4 : (mm - ll) * j.size + ll * j.size = mm * j.size := by rw [← Nat.add_mul]; congr 1; omega
        have e5 : mm * j.size ≤ c * j.size := Nat.mul_le_mul_right _ (by omega)
        refine .sl hb (fun _ => by omega) (by omega) (by omega) ?_ (by omega)
        rw [add_eq, mul_eq]; omega
  · replace h := boolC_er h; obtain ⟨h0, h⟩ := h
    replace h := bd_ok h; obtain ⟨hh, hbh, h⟩ := h
    replace h := bd_ok h; obtain ⟨ll, hbl, h⟩ := h
    replace h := bd_ok h; obtain ⟨mm, hbm, h⟩ := h
    have h0' : mx.isSome = true → hi.isSome = true := by
      intro hx; rw [hx] at h0; exact h0
    cases hh with
    | succ _ => cases h
    | zero =>
      cases ll with
      | succ _ => cases h
      | zero =>
        cases mm with
        | succ _ => cases h
        | zero =>
          refine ⟨_, val_ok h, fun ρ a w ct => ?_⟩
          have e1 := (ct.ev hv (by simp [ho, Op.operands])).inv_lit
          obtain ⟨m', hr, hm'⟩ := run_bounds (P := P) (c := 0) (len := 0) (cap := 0) (m := 0) hbl hbh hbm h0' (fun y hy u hu' => ct.ev hu' (hops y hy)) (Nat.le_refl _) (Nat.le_refl _) (Nat.le_refl _) (fun _ => ⟨rfl, Nat.le_refl _, Nat.le_refl _⟩) w
          have hm0 : m' = 0 := by rcases hm' with ⟨_, e⟩ | ⟨_, e⟩ <;> exact e
          subst hm0
          refine ⟨_, hrun a none 0 0 w 0 0 0 e1 hr, ?_⟩
          exact .lit _
  · replace h := bd_ok h; obtain ⟨hh, hbh, h⟩ := h
    replace h := bd_ok h; obtain ⟨ll, hbl, h⟩ := h
    split at h
    · cases hh with
      | succ _ => cases h
      | zero =>
        cases ll with
        | succ _ => cases h
        | zero =>
          refine ⟨_, val_ok h, fun ρ a w ct => ?_⟩
          obtain ⟨b, c, e1⟩ := (ct.ev hv (by simp [ho, Op.operands])).inv_esl
          obtain ⟨m', hr, hm'⟩ := run_bounds (P := P) (c := c) (len := 0) (cap := 0) (m := 0) (mx := none) hbl hbh (.inl ⟨rfl, rfl⟩) (by simp) (fun y hy u hu' => ct.ev hu' (hops y hy)) (Nat.le_refl _) (Nat.le_refl _) (Nat.zero_le _) (fun _ => ⟨rfl, Nat.zero_le _, Nat.le_refl _⟩) w
          obtain ⟨_, rfl⟩ := hm'.resolve_right (by simp)
          refine ⟨_, hrun a _ 0 m' w 0 0 m' e1 hr, ?_⟩
          simp only [Option.map_some, Nat.sub_zero]
          split <;> exact .esl
    · cases h
  · cases h
end
end Go.Proofs.YtclljjfkaljdnaaGreatDoor
