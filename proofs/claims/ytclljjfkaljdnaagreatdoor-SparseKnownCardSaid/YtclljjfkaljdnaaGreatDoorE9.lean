/- The evaluator's operations that look at no memory: comparisons; all of them. No program in sight. -/
import Derived.Test.YtclljjfkaljdnaaGreatDoorE8
namespace Go.Proofs.YtclljjfkaljdnaaGreatDoor
open Go.RowKit

section
variable {P : Program} {E : Env} {s : Tr AV} {o : Oper} {H : AH} {r : ARes}

theorem litL_ok {β : Type} {l : List AV} {k : List Value → R β} {q : β} (h : litL l k = .ok q) : ∃ xs : List Value, l = xs.map AV.lit ∧ k xs = .ok q := by
  unfold litL at h
  obtain ⟨xs, h1, h2⟩ := mapK_ok (S := fun v x => v = AV.lit x) (fun v k q h => by
    split at h
    · exact ⟨_, rfl, h⟩
    · cases h) h
  refine ⟨xs, ?_, h2⟩
  clear h h2
  induction h1 with
  | nil => rfl
  | cons e _ ih => rw [e, ih]; rfl
theorem keyK_ok {β : Type} {kt : TypeId} {v : AV} {k : Value → R β} {q : β} (h : keyK E kt v k = .ok q) :
    ∃ ks key, E.ky.get kt = some ks ∧ KP ks key ∧ k key = .ok q ∧ ∀ (ρ : Ren) v', Rl ρ v v' → v' = key := by
  unfold keyK at h
  replace h := getK_ok h; obtain ⟨ks, hks, h⟩ := h
  split at h
  · rename_i c x
    replace h := boolC_er h; obtain ⟨h1, h⟩ := h
    exact ⟨_, x, hks, h1, h, fun ρ v' hr => hr.inv_lit⟩
  · rename_i cs l
    replace h := litL_ok h; obtain ⟨xs, rfl, h⟩ := h
    replace h := boolC_er h; obtain ⟨h1, h⟩ := h
    refine ⟨_, .agg ⟨xs⟩, hks, ⟨xs, rfl, h1⟩, h, fun ρ v' hr => ?_⟩
    obtain ⟨l', h2, rfl⟩ := hr.inv_agg
    have := h2.inv_lits
    cases l'; simp_all
  · cases h

/-- What a comparison comes to. -/
def EqOut (P : Program) (op : BinOp) (t : TypeId) (x y : AV) (b : Bool) : Prop :=
  ∀ (ρ : Ren) u v w, Rl ρ x u → Rl ρ y v → (Go.binOp .eql t u v).run P w = .ok (.bool b) w ∧ (Go.binOp .neq t u v).run P w = .ok (.bool (!b)) w ∧ ∀ xo yo, (eqGuard op t xo yo u v).run P w = .ok () w

theorem eqOut_of {op : BinOp} {t : TypeId} {x y : AV} {b : Bool} (h : ∀ (ρ : Ren) u v w, Rl ρ x u → Rl ρ y v → (Op.equal t u v).run P w = .ok b w ∧
    ((∃ p, u = .pointer p) ∨ (∃ p n m, u = .slice p n m) ∨ (∃ p, u = .map p) ∨ (∃ p l m, u = .func p l m) ∨ u = .nilFunc ∨ (∃ p, u = .bool p))) : EqOut P op t x y b := by
  intro ρ u v w hx hy
  obtain ⟨h1, h2⟩ := h ρ u v w hx hy
  have h3 := run_eq (P := P) (t := t) (u := u) (v := v) (b := b) (w := w) (by rcases h2 with ⟨_, rfl⟩ | ⟨_, _, _, rfl⟩ | ⟨_, rfl⟩ | ⟨_, _, _, rfl⟩ | rfl | ⟨_, rfl⟩ <;> simp)
    (by rcases h2 with ⟨_, rfl⟩ | ⟨_, _, _, rfl⟩ | ⟨_, rfl⟩ | ⟨_, _, _, rfl⟩ | rfl | ⟨_, rfl⟩ <;> simp) (by rcases h2 with ⟨_, rfl⟩ | ⟨_, _, _, rfl⟩ | ⟨_, rfl⟩ | ⟨_, _, _, rfl⟩ | rfl | ⟨_, rfl⟩ <;> simp)
    (by rcases h2 with ⟨_, rfl⟩ | ⟨_, _, _, rfl⟩ | ⟨_, rfl⟩ | ⟨_, _, _, rfl⟩ | rfl | ⟨_, rfl⟩ <;> simp) h1
  refine ⟨h3.1, h3.2, fun xo yo => eqGuard_plain _ _ _ _ _ _ ?_ ?_ _⟩
  · rcases h2 with ⟨_, rfl⟩ | ⟨_, _, _, rfl⟩ | ⟨_, rfl⟩ | ⟨_, _, _, rfl⟩ | rfl | ⟨_, rfl⟩ <;> simp
  · rcases h2 with ⟨_, rfl⟩ | ⟨_, _, _, rfl⟩ | ⟨_, rfl⟩ | ⟨_, _, _, rfl⟩ | rfl | ⟨_, rfl⟩ <;> simp

section
variable {t : TypeId} (w : World)
theorem eq_bool (d : Nat) (h : P.underlying t = some .bool) (a b : Bool) : (Op.equalIn (d + 1) t (.bool a) (.bool b)).run P w = .ok (a == b) w := by
  unfold Op.equalIn; simp only [Sem.run_bind, run_underlying h, Result.andThen_ok, Sem.run_pure]
theorem eq_ptr (d : Nat) {e : TypeId} (h : P.underlying t = some (.pointer e)) (b : Option Addr) : (Op.equalIn (d + 1) t (.pointer none) (.pointer b)).run P w = .ok b.isNone w := by
  unfold Op.equalIn; cases b <;> simp only [Sem.run_bind, run_underlying h, Result.andThen_ok, Sem.run_pure]
theorem eq_ptr' (d : Nat) {e : TypeId} (h : P.underlying t = some (.pointer e)) (b : Addr) : (Op.equalIn (d + 1) t (.pointer (some b)) (.pointer none)).run P w = .ok false w := by
  unfold Op.equalIn; simp only [Sem.run_bind, run_underlying h, Result.andThen_ok, Sem.run_pure]
theorem eq_sl (d : Nat) {e : TypeId} (h : P.underlying t = some (.slice e)) (b : Option Addr) (n m n' m' : Nat) : (Op.equalIn (d + 1) t (.slice none n m) (.slice b n' m')).run P w = .ok b.isNone w := by
  unfold Op.equalIn; cases b <;> simp only [Sem.run_bind, run_underlying h, Result.andThen_ok, Sem.run_pure]
theorem eq_sl' (d : Nat) {e : TypeId} (h : P.underlying t = some (.slice e)) (b : Addr) (n m n' m' : Nat) : (Op.equalIn (d + 1) t (.slice (some b) n m) (.slice none n' m')).run P w = .ok false w := by
  unfold Op.equalIn; simp only [Sem.run_bind, run_underlying h, Result.andThen_ok, Sem.run_pure]
theorem eq_map (d : Nat) {k e : TypeId} (h : P.underlying t = some (.map k e)) (b : Option Nat) : (Op.equalIn (d + 1) t (.map none) (.map b)).run P w = .ok b.isNone w := by
  unfold Op.equalIn; cases b <;> simp only [Sem.run_bind, run_underlying h, Result.andThen_ok, Sem.run_pure]
theorem eq_map' (d : Nat) {k e : TypeId} (h : P.underlying t = some (.map k e)) (b : Nat) : (Op.equalIn (d + 1) t (.map (some b)) (.map none)).run P w = .ok false w := by
  unfold Op.equalIn; simp only [Sem.run_bind, run_underlying h, Result.andThen_ok, Sem.run_pure]
theorem eq_fn (d : Nat) {x y : Array TypeId} {z : Bool} (h : P.underlying t = some (.func x y z)) : (Op.equalIn (d + 1) t .nilFunc .nilFunc).run P w = .ok true w := by
  unfold Op.equalIn; simp only [Sem.run_bind, run_underlying h, Result.andThen_ok, Sem.run_pure]
theorem eq_fn' (d : Nat) {x y : Array TypeId} {z : Bool} (h : P.underlying t = some (.func x y z)) (f : Fn) (l m : Array Value) : (Op.equalIn (d + 1) t (.func f l m) .nilFunc).run P w = .ok false w := by
  unfold Op.equalIn; simp only [Sem.run_bind, run_underlying h, Result.andThen_ok, Sem.run_pure]
end

theorem boolEq (a b : Bool) : boolC (boolC true false b) b a = (a == b) := by cases a <;> cases b <;> rfl

theorem eqlK_ok (EO : EnvOK P E) {op : BinOp} {t : TypeId} {x y : AV} {k : Value → R ARes} (h : eqlK E op t x y k = .ok r) :
    ∃ b, ((op = .eql ∧ k (.bool b) = .ok r) ∨ (op = .neq ∧ k (.bool (!b)) = .ok r)) ∧ EqOut P op t x y b := by
  unfold eqlK at h
  replace h := tiK_ok h; obtain ⟨i, hi, h⟩ := h
  have T := EO.tt _ _ hi
  have hu := T.und
  split at h
  · rename_i a b hd
    rw [hd] at hu
    rw [boolEq] at h
    refine ⟨_, neg1_ok h, eqOut_of fun ρ u v w hx hy => ?_⟩
    rw [hx.inv_lit, hy.inv_lit]
    exact ⟨eq_bool _ 9999 hu _ _, by simp⟩
  · rename_i e hd
    rw [hd] at hu
    refine ⟨_, neg1_ok h, eqOut_of fun ρ u v w hx hy => ?_⟩
    rw [hx.inv_lit, hy.inv_lit]
    exact ⟨eq_ptr _ 9999 hu _, by simp⟩
  · rename_i e id off hd
    rw [hd] at hu
    refine ⟨_, neg1_ok h, eqOut_of fun ρ u v w hx hy => ?_⟩
    obtain ⟨b, s', N, _, rfl⟩ := hy.inv_ptr
    rw [hx.inv_lit]
    exact ⟨eq_ptr _ 9999 hu _, by simp⟩
  · rename_i e id off hd
    rw [hd] at hu
    refine ⟨_, neg1_ok h, eqOut_of fun ρ u v w hx hy => ?_⟩
    obtain ⟨b, s', N, _, rfl⟩ := hx.inv_ptr
    rw [hy.inv_lit]
    exact ⟨eq_ptr' _ 9999 hu _, by simp⟩
  · rename_i e n m n' m' hd
    rw [hd] at hu
    refine ⟨_, neg1_ok h, eqOut_of fun ρ u v w hx hy => ?_⟩
    rw [hx.inv_lit, hy.inv_lit]
    exact ⟨eq_sl _ 9999 hu _ _ _ _ _, by simp⟩
  · rename_i hd
    rw [hd] at hu
    refine ⟨_, neg1_ok h, eqOut_of fun ρ u v w hx hy => ?_⟩
    obtain ⟨b, s', N, c, _, _, _, _, _, _, rfl⟩ := hx.inv_sl
    rw [hy.inv_lit]
    exact ⟨eq_sl' _ 9999 hu _ _ _ _ _, by simp⟩
  · rename_i hd
    rw [hd] at hu
    refine ⟨_, neg1_ok h, eqOut_of fun ρ u v w hx hy => ?_⟩
    obtain ⟨b, c, rfl⟩ := hx.inv_esl
    rw [hy.inv_lit]
    exact ⟨eq_sl' _ 9999 hu _ _ _ _ _, by simp⟩
  · rename_i hd
    rw [hd] at hu
    refine ⟨_, neg1_ok h, eqOut_of fun ρ u v w hx hy => ?_⟩
    obtain ⟨b, s', N, c, _, _, _, _, _, _, rfl⟩ := hy.inv_sl
    rw [hx.inv_lit]
    exact ⟨eq_sl _ 9999 hu _ _ _ _ _, by simp⟩
  · rename_i hd
    rw [hd] at hu
    refine ⟨_, neg1_ok h, eqOut_of fun ρ u v w hx hy => ?_⟩
    rw [hx.inv_lit, hy.inv_lit]
    exact ⟨eq_map _ 9999 hu _, by simp⟩
  · rename_i hd
    rw [hd] at hu
    refine ⟨_, neg1_ok h, eqOut_of fun ρ u v w hx hy => ?_⟩
    obtain ⟨b, s', N, _, rfl⟩ := hx.inv_map
    rw [hy.inv_lit]
    exact ⟨eq_map' _ 9999 hu _, by simp⟩
  · rename_i hd
    rw [hd] at hu
    refine ⟨_, neg1_ok h, eqOut_of fun ρ u v w hx hy => ?_⟩
    rw [hx.inv_lit, hy.inv_lit]
    exact ⟨eq_fn _ 9999 hu, by simp⟩
  · rename_i f l m hd
    rw [hd] at hu
    refine ⟨_, neg1_ok h, eqOut_of fun ρ u v w hx hy => ?_⟩
    rw [hy.inv_lit]
    have hx' : ∃ p l m, u = .func p l m := by cases hx <;> exact ⟨_, _, _, rfl⟩
    obtain ⟨p, l', m', rfl⟩ := hx'
    exact ⟨eq_fn' _ 9999 hu _ _ _, by simp⟩
  all_goals
    first
      | (cases h; done)
      | (replace h := keyK_ok h; obtain ⟨ks, a, hks, ha, h, hax⟩ := h
         replace h := keyK_ok h; obtain ⟨ks', b, hks', hb, h, hby⟩ := h
         rw [hks] at hks'; cases hks'
         refine ⟨_, neg1_ok h, fun ρ u v w hx hy => ?_⟩
         have KF := EO.ky _ _ hks
         obtain ⟨l', _, rfl⟩ := hx.inv_agg
         obtain ⟨m', _, rfl⟩ := hy.inv_agg
         have e1 := hax ρ _ hx
         have e2 := hby ρ _ hy
         subst e1 e2
         have h1 := KF.eq _ _ w ha hb
         have h3 := run_eq (P := P) (t := t) (w := w) (by simp) (by simp) (by simp) (by simp) h1
         exact ⟨h3.1, h3.2, fun xo yo => run_eqGuard_agg _ _ _ _ _ _ _ KF.gd⟩)

theorem pu_binOp (EO : EnvOK P E) {op : BinOp} {t u : TypeId} {x y : Operand} (ho : o.op = .binOp op t x y u) (h : opK E s (.binOp op t x y u) H = .ok r) : Pu P E s o H r := by
  unfold opK at h
  dsimp only at h
  replace h := evK_ok h; obtain ⟨a, ha, h⟩ := h
  replace h := evK_ok h; obtain ⟨b, hb, h⟩ := h
  unfold binK at h
  split at h
  · rename_i j m k n
    replace h := pureV_ok h; obtain ⟨v, hv, h⟩ := h
    refine ⟨_, valS_ok h, fun ρ ac w c => ⟨v, ?_, .lit v⟩⟩
    have e1 := (c.ev ha (by simp [ho, Op.operands])).inv_lit
    have e2 := (c.ev hb (by simp [ho, Op.operands])).inv_lit
    have hg := eqGuard_plain (P := P) op t x y (.int j m) (.int k n) (by simp) (by simp) w
    simp only [execOp, ho, e1, e2, Sem.run_bind, hg, Result.andThen_ok, binOp_ints op t, hv]
    rfl
  · rename_i m n
    have key : ∀ w, ∃ v, (Go.binOp op t (.string m) (.string n)).run P w = .ok v w ∧ valS v H = .ok r := fun w => by
      obtain ⟨v, h1, h2, _⟩ := strOp_run (P := P) h t w
      exact ⟨v, h1, h2⟩
    obtain ⟨v0, _, h0⟩ := key default
    refine ⟨_, valS_ok h0, fun ρ ac w c => ⟨v0, ?_, .lit v0⟩⟩
    obtain ⟨v, h1, h2⟩ := key w
    have : v = v0 := by
      have a1 := valS_ok h0; have a2 := valS_ok h2
      rw [a1] at a2; cases a2; rfl
    subst this
    have e1 := (c.ev ha (by simp [ho, Op.operands])).inv_lit
    have e2 := (c.ev hb (by simp [ho, Op.operands])).inv_lit
    have hg := eqGuard_plain (P := P) op t x y (.string m) (.string n) (by simp) (by simp) w
    simp only [execOp, ho, e1, e2, Sem.run_bind, hg, Result.andThen_ok, h1]
    rfl
  · replace h := eqlK_ok EO h; obtain ⟨q, h, hout⟩ := h
    rcases h with ⟨rfl, h⟩ | ⟨rfl, h⟩
    · refine ⟨_, valS_ok h, fun ρ ac w c => ⟨_, ?_, .lit _⟩⟩
      obtain ⟨h1, h2, h3⟩ := hout ρ _ _ w (c.ev ha (by simp [ho, Op.operands])) (c.ev hb (by simp [ho, Op.operands]))
      simp only [execOp, ho, Sem.run_bind, h3, Result.andThen_ok, h1]
      rfl
    · refine ⟨_, valS_ok h, fun ρ ac w c => ⟨_, ?_, .lit _⟩⟩
      obtain ⟨h1, h2, h3⟩ := hout ρ _ _ w (c.ev ha (by simp [ho, Op.operands])) (c.ev hb (by simp [ho, Op.operands]))
      simp only [execOp, ho, Sem.run_bind, h3, Result.andThen_ok, h2]
      rfl

/-- What a call of a builtin is, once its arguments are known. -/
theorem run_builtin {b : Builtin} {args : Array Operand} {ts : Array TypeId} (ho : o.op = .call { callee := .builtin b, args := args, argTypes := ts }) (a : Act) (w : World) :
    (execOp a.eval o).run P w = (builtin b ts o.type (args.map fun | .const _ => true | _ => false) (args.map a.eval)).run P w := by
  simp [execOp, ho, resolve, invoke]
  rfl

theorem f2_two {α γ : Type} {S : α → γ → Prop} {l : List α} {x y : γ} (h : F2 S l [x, y]) : ∃ a b, l = [a, b] ∧ S a x ∧ S b y := by
  cases h with | cons h1 h2 => cases h2 with | cons h3 h4 => cases h4; exact ⟨_, _, rfl, h1, h3⟩
theorem f2_one {α γ : Type} {S : α → γ → Prop} {l : List α} {x : γ} (h : F2 S l [x]) : ∃ a, l = [a] ∧ S a x := by
  cases h with | cons h1 h2 => cases h2; exact ⟨_, rfl, h1⟩

theorem builtinK_min (ts : List TypeId) (args : List AV) : builtinK E .min ts args H = match args with | [x, y] => minK false x y H | _ => .er [77] := by
  unfold builtinK
  rcases args with _ | ⟨x, _ | ⟨y, _ | ⟨z, l⟩⟩⟩ <;> rfl
theorem builtinK_max (ts : List TypeId) (args : List AV) : builtinK E .max ts args H = match args with | [x, y] => minK true x y H | _ => .er [77] := by
  unfold builtinK
  rcases args with _ | ⟨x, _ | ⟨y, _ | ⟨z, l⟩⟩⟩ <;> rfl
theorem minK_ok {big : Bool} {x y : AV} (h : minK big x y H = .ok r) : ∃ j m k n v, x = .lit (.int j m) ∧ y = .lit (.int k n) ∧ (if big then Builtin.max2 (.int j m) (.int k n) else Builtin.min2 (.int j m) (.int k n)) = .pure v ∧ r = .val (.lit v) H := by
  unfold minK at h
  split at h
  · rename_i j m k n
    cases big with
    | false => rw [boolC_false] at h; obtain ⟨v, hv, h⟩ := pureV_ok (k := fun v => valS v H) h; exact ⟨_, _, _, _, v, rfl, rfl, hv, valS_ok h⟩
    | true => rw [boolC_true] at h; obtain ⟨v, hv, h⟩ := pureV_ok (k := fun v => valS v H) h; exact ⟨_, _, _, _, v, rfl, rfl, hv, valS_ok h⟩
  · cases h
theorem pu_minmax {b : Builtin} (hb : b = .min ∨ b = .max) {args : Array Operand} {ts : Array TypeId} (ho : o.op = .call { callee := .builtin b, args := args, argTypes := ts })
    (h : opK E s (.call { callee := .builtin b, args := args, argTypes := ts }) H = .ok r) : Pu P E s o H r := by
  unfold opK at h
  dsimp only at h
  replace h := evL_ok h; obtain ⟨vs, hvs, h⟩ := h
  have key : ∃ x y big, vs = [x, y] ∧ ((big = false ∧ b = .min) ∨ (big = true ∧ b = .max)) ∧ minK big x y H = .ok r := by
    rcases hb with rfl | rfl
    · rw [builtinK_min] at h
      split at h
      · exact ⟨_, _, _, rfl, .inl ⟨rfl, rfl⟩, h⟩
      · cases h
    · rw [builtinK_max] at h
      split at h
      · exact ⟨_, _, _, rfl, .inr ⟨rfl, rfl⟩, h⟩
      · cases h
  obtain ⟨x, y, big, rfl, hbig, h⟩ := key
  obtain ⟨ox, oy, hl, hx, hy⟩ := f2_two hvs
  have hargs : args = #[ox, oy] := by cases args; simp_all
  obtain ⟨j, m, k, n, v, rfl, rfl, hv, hr⟩ := minK_ok h
  refine ⟨_, hr, fun ρ ac w c => ⟨v, ?_, .lit v⟩⟩
  have hop : ∀ z ∈ args.toList, z ∈ o.op.operands.toList := by
    intro z hz
    simp only [ho, Op.operands, Call.operands, Array.toList_append, List.mem_append]; exact .inr hz
  have e1 := (c.ev hx (hop _ (by simp [hargs]))).inv_lit
  have e2 := (c.ev hy (hop _ (by simp [hargs]))).inv_lit
  rw [run_builtin ho]
  have : args.map ac.eval = #[.int j m, .int k n] := by rw [hargs]; simp [e1, e2]
  rw [this]
  rcases hbig with ⟨rfl, rfl⟩ | ⟨rfl, rfl⟩
  · have : Builtin.min_ ts o.type #[.int j m, .int k n] = .pure v := by
      show (do let a ← Builtin.min2 (.int j m) (.int k n); pure a) = _
      have hv' : Builtin.min2 (.int j m) (.int k n) = .pure v := hv
      rw [hv']
    simp only [builtin, this]; try rfl
  · have : Builtin.max_ ts o.type #[.int j m, .int k n] = .pure v := by
      show (do let a ← Builtin.max2 (.int j m) (.int k n); pure a) = _
      have hv' : Builtin.max2 (.int j m) (.int k n) = .pure v := hv
      rw [hv']
    simp only [builtin, this]; try rfl
end
end Go.Proofs.YtclljjfkaljdnaaGreatDoor
