/- The evaluator's operations that look at no memory, and the machine's. No program in sight. -/
import Derived.Test.YtclljjfkaljdnaaGreatDoorE5
namespace Go.Proofs.YtclljjfkaljdnaaGreatDoor
open Go.RowKit

def Gl (E : Env) (ρ : Ren) : Prop := ∀ g id, E.gl.get g = some id → ∃ N, ρ id = some (g, 0, N)
/-- Where an operation is looked at: the evaluator's slots s, the machine's frame a. -/
structure Ctx (E : Env) (ρ : Ren) (s : Tr AV) (a : Act) (o : Op) : Prop where
  gl : Gl E ρ
  sees : ∀ x ∈ o.operands.toList, Sees ρ s a x

theorem Ev.rel' {E : Env} {ρ : Ren} {s : Tr AV} {a : Act} (hg : Gl E ρ) {x : Operand} {v : AV} (h : Ev E s x v) (hs : Sees ρ s a x) : Rl ρ v (a.eval x) := by
  cases x with
  | tmp t =>
    obtain ⟨v', h1, h2⟩ := hs v h
    show Rl ρ v (a.tmps.getD t undef)
    rw [Array.getD_eq_getD_getElem?, h1]; exact h2
  | const c => exact h ρ
  | global g =>
    obtain ⟨id, h1, rfl⟩ := h
    obtain ⟨N, h2⟩ := hg g id h1
    exact .ptr h2
  | func f => have h' : v = .fn (.func f) [] [] := h; subst h'; exact .fn .nil .nil
theorem Ctx.ev {E : Env} {ρ : Ren} {s : Tr AV} {a : Act} {o : Op} (c : Ctx E ρ s a o) {x : Operand} {v : AV} (h : Ev E s x v) (hx : x ∈ o.operands.toList) : Rl ρ v (a.eval x) := h.rel' c.gl (c.sees x hx)
theorem Ctx.evL {E : Env} {ρ : Ren} {s : Tr AV} {a : Act} {o : Op} (c : Ctx E ρ s a o) {l : List Operand} {vs : List AV} (h : F2 (Ev E s) l vs) (hx : ∀ x ∈ l, x ∈ o.operands.toList) : RlL ρ vs (l.map a.eval) := by
  induction h with
  | nil => exact .nil
  | cons h1 _ ih => exact .cons (c.ev h1 (hx _ (by simp))) (ih fun x h => hx x (by simp [h]))

/-! ### what stands behind a related value -/
section
variable {ρ : Ren} {v : Value}
theorem Rl.inv_lit {u : Value} (h : Rl ρ (.lit u) v) : v = u := by cases h; rfl
theorem Rl.inv_ptr {id off : Nat} (h : Rl ρ (.ptr id off) v) : ∃ b s N, ρ id = some (b, s, N) ∧ v = .pointer (some ⟨b, s + off, none⟩) := by cases h with | ptr e => exact ⟨_, _, _, e, rfl⟩
theorem Rl.inv_sl {id off es len cap : Nat} {ex : Bool} (h : Rl ρ (.sl id off es len cap ex) v) :
    ∃ b s N c, ρ id = some (b, s, N) ∧ (ex = true → c = cap) ∧ cap ≤ c ∧ len ≤ cap ∧ s + off + c * es ≤ N ∧ c ≤ maxLen ∧ v = .slice (some ⟨b, s + off, none⟩) len c := by
  cases h with | sl e h1 h2 h3 h4 h5 => exact ⟨_, _, _, _, e, h1, h2, h3, h4, h5, rfl⟩
theorem Rl.inv_esl (h : Rl ρ .esl v) : ∃ a c, v = .slice (some a) 0 c := by cases h; exact ⟨_, _, rfl⟩
theorem Rl.inv_map {id : Nat} (h : Rl ρ (.map id) v) : ∃ b s N, ρ id = some (b, s, N) ∧ v = .map (some b) := by cases h with | map e => exact ⟨_, _, _, e, rfl⟩
theorem Rl.inv_agg {l : List AV} (h : Rl ρ (.agg l) v) : ∃ l' : Array Value, RlL ρ l l'.toList ∧ v = .agg l' := by cases h with | agg e => exact ⟨_, e, rfl⟩
theorem Rl.inv_tup {l : List AV} (h : Rl ρ (.tup l) v) : ∃ l' : Array Value, RlL ρ l l'.toList ∧ v = .tuple l' := by cases h with | tup e => exact ⟨_, e, rfl⟩
theorem Rl.inv_fn {f : FuncId} {l m : List AV} (h : Rl ρ (.fn (.func f) l m) v) : ∃ l' m' : Array Value, RlL ρ l l'.toList ∧ RlL ρ m m'.toList ∧ v = .func (.func f) l' m' := by cases h with | fn e e' => exact ⟨_, _, e, e', rfl⟩
theorem Rl.inv_yld {l : Nat} {x y : List AV} (h : Rl ρ (.fn (.yield l) x y) v) : ∃ b s N, ρ l = some (b, s, N) ∧ x = [] ∧ y = [] ∧ v = .func (.yield b) #[] #[] := by cases h with | yld e => exact ⟨_, _, _, e, rfl, rfl, rfl⟩
theorem RlL.inv_lits {l l' : List Value} (h : RlL ρ (l.map AV.lit) l') : l' = l := by
  induction l generalizing l' with
  | nil => cases h; rfl
  | cons a l ih => cases h with | cons h1 h2 => rw [h1.inv_lit, ih h2]
end

theorem val_ok {v : AV} {H : AH} {r : ARes} (h : val v H = .ok r) : r = .val v H := by unfold val at h; cases h; rfl
theorem valS_ok {v : Value} {H : AH} {r : ARes} (h : valS v H = .ok r) : r = .val (.lit v) H := by
  unfold valS at h; rw [forceV_eq] at h; cases h; rfl
theorem pureV_ok {β : Type} {s : Sem Value} {k : Value → R β} {l : List Nat} {r : β} (h : pureV s k (.er l) = .ok r) : ∃ v, s = .pure v ∧ k v = .ok r := by
  unfold pureV at h
  split at h
  · exact ⟨_, rfl, h⟩
  · cases h
theorem natK_ok {β : Type} {v : AV} {k : Nat → R β} {r : β} (h : natK v k = .ok r) : ∃ j n, v = .lit (.int j (.ofNat n)) ∧ k n = .ok r := by
  unfold natK at h
  split at h
  · exact ⟨_, _, rfl, h⟩
  · cases h
theorem optK_ok {E : Env} {s : Tr AV} {β : Type} {x : Option Operand} {d : Nat} {k : Nat → R β} {r : β} (h : optK E s x d k = .ok r) :
    ∃ n, k n = .ok r ∧ ((x = none ∧ n = d) ∨ ∃ y j, x = some y ∧ Ev E s y (.lit (.int j (.ofNat n)))) := by
  unfold optK at h
  cases x with
  | none => exact ⟨d, h, .inl ⟨rfl, rfl⟩⟩
  | some y =>
    obtain ⟨v, hv, h⟩ := evK_ok h
    obtain ⟨j, n, rfl, h⟩ := natK_ok h
    exact ⟨n, h, .inr ⟨y, j, rfl, hv⟩⟩
theorem elemOf_ok {E : Env} {β : Type} {t : TypeId} {k : TypeId → TypeDesc → Nat → Nat → List AV → R β} {r : β} (h : elemOf' E t k = .ok r) :
    ∃ i e j, E.tt.get t = some i ∧ i.desc = .slice e ∧ E.tt.get e = some j ∧ k e j.desc j.size j.bytes j.zero = .ok r := by
  unfold elemOf' at h
  obtain ⟨i, hi, h⟩ := tiK_ok h
  split at h
  · rename_i e he
    obtain ⟨j, hj, h⟩ := tiK_ok h
    exact ⟨i, e, j, hi, he, hj, h⟩
  · cases h
theorem fieldK_ok {E : Env} {β : Type} {t : TypeId} {f : Nat} {k : Nat → Nat → Bool → R β} {r : β} (h : fieldK E t f k = .ok r) :
    ∃ i fs fd j, E.tt.get t = some i ∧ i.desc = .struct fs ∧ fs[f]? = some fd ∧ E.tt.get fd.type = some j ∧ k fd.offset j.size (isAggD j.desc) = .ok r := by
  unfold fieldK at h
  obtain ⟨i, hi, h⟩ := tiK_ok h
  split at h
  · rename_i fs hfs
    obtain ⟨fd, hfd, h⟩ := nthK_ok h
    obtain ⟨j, hj, h⟩ := tiK_ok h
    exact ⟨i, fs, fd, j, hi, hfs, by simpa using hfd, hj, h⟩
  · cases h
theorem forceN_ok {β : Type} {n : Nat} {k : Nat → R β} {r : β} (h : forceN n k = .ok r) : k n = .ok r := by rw [forceN_eq] at h; exact h

/-- An operation that looks at no memory. -/
def Pu (P : Program) (E : Env) (s : Tr AV) (o : Oper) (H : AH) (r : ARes) : Prop :=
  ∃ av, r = .val av H ∧ ∀ ρ a w, Ctx E ρ s a o.op → ∃ v, (execOp a.eval o).run P w = .ok (.value v) w ∧ Rl ρ av v

section
variable {P : Program} {E : Env} {s : Tr AV} {o : Oper} {H : AH} {r : ARes}

theorem pu_move {x : Operand} (ho : o.op = .move x ∨ o.op = .assign x) (h : evK E s x (fun v => val v H) = .ok r) : Pu P E s o H r := by
  obtain ⟨v, hv, h⟩ := evK_ok h
  refine ⟨v, val_ok h, fun ρ a w c => ⟨a.eval x, ?_, c.ev hv ?_⟩⟩
  · rcases ho with ho | ho <;> simp [execOp, ho]
  · rcases ho with ho | ho <;> simp [ho, Op.operands]

theorem pu_pick {c x y : Operand} (ho : o.op = .pick c x y) (h : opK E s (.pick c x y) H = .ok r) : Pu P E s o H r := by
  unfold opK at h
  dsimp only at h
  obtain ⟨v, hv, h⟩ := evK_ok h
  split at h
  · rename_i b
    cases b with
    | true =>
      obtain ⟨u, hu, h⟩ := evK_ok (x := x) h
      refine ⟨u, val_ok h, fun ρ a w ct => ⟨a.eval x, ?_, ct.ev hu (by simp [ho, Op.operands])⟩⟩
      have := (ct.ev hv (by simp [ho, Op.operands])).inv_lit
      simp [execOp, ho, this, asBool]
    | false =>
      obtain ⟨u, hu, h⟩ := evK_ok (x := y) h
      refine ⟨u, val_ok h, fun ρ a w ct => ⟨a.eval y, ?_, ct.ev hu (by simp [ho, Op.operands])⟩⟩
      have := (ct.ev hv (by simp [ho, Op.operands])).inv_lit
      simp [execOp, ho, this, asBool]
  · cases h

theorem pu_nilCheck {x : Operand} (ho : o.op = .nilCheck x) (h : opK E s (.nilCheck x) H = .ok r) : Pu P E s o H r := by
  unfold opK at h
  dsimp only at h
  obtain ⟨v, hv, h⟩ := evK_ok h
  split at h
  · rename_i id off
    refine ⟨_, val_ok h, fun ρ a w c => ⟨a.eval x, ?_, c.ev hv (by simp [ho, Op.operands])⟩⟩
    obtain ⟨b, s', N, _, e⟩ := (c.ev hv (by simp [ho, Op.operands])).inv_ptr
    simp [execOp, ho, e]
  · rename_i f l m
    refine ⟨_, val_ok h, fun ρ a w c => ⟨a.eval x, ?_, c.ev hv (by simp [ho, Op.operands])⟩⟩
    obtain ⟨l', m', _, _, e⟩ := (c.ev hv (by simp [ho, Op.operands])).inv_fn
    simp [execOp, ho, e]
  · cases h

theorem pu_unOp {op : UnOp} {t : TypeId} {x : Operand} (ho : o.op = .unOp op t x) (h : opK E s (.unOp op t x) H = .ok r) : Pu P E s o H r := by
  unfold opK at h
  dsimp only at h
  obtain ⟨v, hv, h⟩ := evK_ok h
  split at h
  · rename_i u
    obtain ⟨y, hy, h⟩ := pureV_ok h
    refine ⟨_, valS_ok h, fun ρ a w c => ⟨y, ?_, .lit y⟩⟩
    have := (c.ev hv (by simp [ho, Op.operands])).inv_lit
    simp only [execOp, ho, this, hy]
    rfl
  · cases h

theorem pu_convert (EO : EnvOK P E) {src dst : TypeId} {x : Operand} (ho : o.op = .convert src dst x) (h : opK E s (.convert src dst x) H = .ok r) : Pu P E s o H r := by
  unfold opK at h
  dsimp only at h
  replace h := evK_ok h; obtain ⟨v, hv, h⟩ := h
  replace h := tiK_ok h; obtain ⟨i, hi, h⟩ := h
  replace h := tiK_ok h; obtain ⟨j, hj, h⟩ := h
  have key : ∃ k j' n y, j.desc = .int k ∧ v = .lit (.int j' n) ∧ Conv.intToInt k n = .pure y ∧ r = .val (.lit y) H := by
    split at h
    · rename_i k j' n hd
      obtain ⟨y, hy, h⟩ := pureV_ok h
      exact ⟨k, j', n, y, hd, rfl, hy, valS_ok h⟩
    · cases h
  obtain ⟨k, j', n, y, hd, rfl, hy, hr⟩ := key
  refine ⟨_, hr, fun ρ a w c => ⟨y, ?_, .lit y⟩⟩
  have := (c.ev hv (by simp [ho, Op.operands])).inv_lit
  have hd2 : P.underlying dst = some (.int k) := by have := (EO.tt _ _ hj).und; rwa [hd] at this
  simp only [execOp, ho, this, convert, Sem.run_bind, (EO.tt _ _ hi).run_und w, run_underlying hd2, Result.andThen_ok, hy]
  rfl

theorem pu_makeFunc {f : Fn} {first captured : Array Operand} (ho : o.op = .makeFunc f first captured) (h : opK E s (.makeFunc f first captured) H = .ok r) : Pu P E s o H r := by
  unfold opK at h
  dsimp only at h
  split at h
  · rename_i n
    obtain ⟨l, hl, h⟩ := evL_ok h
    obtain ⟨m, hm, h⟩ := evL_ok h
    refine ⟨_, val_ok h, fun ρ a w c => ⟨.func (.func n) (first.map a.eval) (captured.map a.eval), ?_, .fn ?_ ?_⟩⟩
    · simp [execOp, ho, Instr.makeFunc]
    · have := c.evL hl (fun x hx => by simp only [ho, Op.operands, Array.toList_append, List.mem_append]; exact .inl hx)
      simpa using this
    · have := c.evL hm (fun x hx => by simp only [ho, Op.operands, Array.toList_append, List.mem_append]; exact .inr hx)
      simpa using this
  · cases h

theorem pu_extract {x : Operand} {i : Nat} (ho : o.op = .extract x i) (h : opK E s (.extract x i) H = .ok r) : Pu P E s o H r := by
  unfold opK at h
  dsimp only at h
  obtain ⟨v, hv, h⟩ := evK_ok h
  split at h
  · rename_i l
    obtain ⟨u, hu, h⟩ := nthK_ok h
    refine ⟨_, val_ok h, fun ρ a w c => ?_⟩
    obtain ⟨l', hl, e⟩ := (c.ev hv (by simp [ho, Op.operands])).inv_tup
    obtain ⟨v', h1, h2⟩ := hl.get hu
    have h1' : l'[i]? = some v' := by simpa using h1
    refine ⟨v', ?_, h2⟩
    simp [execOp, ho, e, Instr.extract, h1']
  · cases h

/-! ### parts of structs and arrays -/
theorem partK_ok {β : Type} {off sz : Nat} {ag : Bool} {l : List AV} {k : AV → R β} {r : β} (h : partK off sz ag l k = .ok r) :
    (ag = false ∧ ∃ v, l[off]? = some v ∧ k v = .ok r) ∨ (ag = true ∧ off + sz ≤ l.length ∧ k (.agg ((l.drop off).take sz)) = .ok r) := by
  unfold partK at h
  cases ag with
  | false => obtain ⟨v, h1, h2⟩ := nthK_ok (k := k) h; exact .inl ⟨rfl, v, h1, h2⟩
  | true =>
    obtain ⟨h1, h⟩ := dropK_ok (k := fun l' => takeK sz l' (fun p => k (.agg p)) (.er [94])) h
    obtain ⟨h2, h⟩ := takeK_ok h
    exact .inr ⟨rfl, by rw [List.length_drop] at h2; omega, h⟩
theorem run_part {ρ : Ren} {t : TypeId} {i : TI} (T : TIOK P t i) {off : Nat} {l : List AV} {l' : Array Value} (hl : RlL ρ l l'.toList) {k : AV → R ARes} (h : partK off i.size (isAggD i.desc) l k = .ok r) (w : World) :
    ∃ u v, k u = .ok r ∧ (part t l' off).run P w = .ok v w ∧ Rl ρ u v := by
  rcases partK_ok h with ⟨ha, u, h1, h2⟩ | ⟨ha, h1, h2⟩
  · obtain ⟨v, h3, h4⟩ := hl.get h1
    refine ⟨u, v, h2, ?_, h4⟩
    have h3' : l'[off]? = some v := by simpa using h3
    unfold part
    simp only [Sem.run_bind, T.run_isAgg w, ha, Result.andThen_ok, Bool.false_eq_true, if_false, h3', Sem.run_pure]
  · refine ⟨_, .agg (l'.extract off (off + i.size)), h2, ?_, .agg ?_⟩
    · unfold part
      simp only [Sem.run_bind, T.run_isAgg w, ha, Result.andThen_ok, if_true, T.run_size w, Sem.run_pure]
    · have := (hl.drop off).take i.size
      rw [Array.toList_extract]
      simpa [List.extract_eq_take_drop] using this

theorem pu_field (EO : EnvOK P E) {t : TypeId} {x : Operand} {f : Nat} (ho : o.op = .field t x f) (h : opK E s (.field t x f) H = .ok r) : Pu P E s o H r := by
  unfold opK at h
  dsimp only at h
  obtain ⟨v, hv, h⟩ := evK_ok h
  split at h
  · rename_i l
    obtain ⟨i, fs, fd, j, hi, hd, hf, hj, h⟩ := fieldK_ok h
    have T := EO.tt _ _ hj
    have hu : P.underlying t = some (.struct fs) := by have := (EO.tt _ _ hi).und; rwa [hd] at this
    have key : ∃ u, (∀ (l' : Array Value) (ρ : Ren), RlL ρ l l'.toList → ∀ w, ∃ v, (part fd.type l' fd.offset).run P w = .ok v w ∧ Rl ρ u v) ∧ r = .val u H := by
      rcases partK_ok h with ⟨ha, u, h1, h2⟩ | ⟨ha, h1, h2⟩
      · refine ⟨u, fun l' ρ hl w => ?_, val_ok h2⟩
        obtain ⟨u', v, h3, h4, h5⟩ := run_part T hl h w
        have := val_ok h3
        have h2' := val_ok h2
        rw [this] at h2'
        cases h2'
        exact ⟨v, h4, h5⟩
      · refine ⟨_, fun l' ρ hl w => ?_, val_ok h2⟩
        obtain ⟨u', v, h3, h4, h5⟩ := run_part T hl h w
        have := val_ok h3
        have h2' := val_ok h2
        rw [this] at h2'
        cases h2'
        exact ⟨v, h4, h5⟩
    obtain ⟨u, hu2, hr⟩ := key
    refine ⟨u, hr, fun ρ a w c => ?_⟩
    obtain ⟨l', hl, e⟩ := (c.ev hv (by simp [ho, Op.operands])).inv_agg
    obtain ⟨v, h1, h2⟩ := hu2 l' ρ hl w
    refine ⟨v, ?_, h2⟩
    simp [execOp, ho, e, Instr.field, run_underlying hu, hf, asAgg, h1]
  · cases h
end
end Go.Proofs.YtclljjfkaljdnaaGreatDoor
