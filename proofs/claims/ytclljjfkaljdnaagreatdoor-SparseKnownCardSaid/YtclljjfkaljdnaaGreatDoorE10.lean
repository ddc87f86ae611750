/- The evaluator's operations that look at memory and leave it. No program in sight. -/
import Derived.Test.YtclljjfkaljdnaaGreatDoorE9
namespace Go.Proofs.YtclljjfkaljdnaaGreatDoor
open Go.RowKit

/-! ### keys -/
theorem eqS_eq {a b : Value} (h : eqS a b = true) : a = b := by
  unfold eqS at h
  split at h
  · rename_i j x k y
    cases hjk : (j == k) with
    | false => rw [hjk] at h; cases h
    | true =>
      rw [hjk, boolC_true, eqI_eq] at h
      rw [beq_iff_eq] at hjk h
      rw [hjk, h]
  · rename_i x y
    rw [eqB_eq, beq_iff_eq] at h
    obtain ⟨⟨x⟩⟩ := x
    obtain ⟨⟨y⟩⟩ := y
    simp at h
    rw [h]
  · rename_i x y
    cases x <;> cases y <;> first | rfl | cases h
  · cases h
theorem eqS_self {c : KC} {a : Value} (h : isKC c a = true) : eqS a a = true := by
  unfold isKC at h
  split at h
  · unfold eqS
    simp [boolC_true, eqI_eq]
  · unfold eqS; simp [eqB_eq]
  · rename_i x; cases x <;> rfl
  · cases h
theorem eqL_cons (x y : Value) (a b : List Value) : eqL (x :: a) (y :: b) = boolC false (eqL a b) (eqS x y) := rfl
theorem eqL_eq : ∀ {a b : List Value}, eqL a b = true → a = b
  | [], [], _ => rfl
  | [], _ :: _, h => by cases h
  | _ :: _, [], h => by cases h
  | x :: a, y :: b, h => by
    rw [eqL_cons] at h
    cases hs : eqS x y with
    | false => rw [hs] at h; cases h
    | true => rw [hs] at h; rw [eqS_eq hs, eqL_eq (a := a) (b := b) h]
theorem areKC_cons (c : KC) (cs : List KC) (x : Value) (xs : List Value) : areKC (c :: cs) (x :: xs) = boolC false (areKC cs xs) (isKC c x) := rfl
theorem eqL_self : ∀ {cs : List KC} {a : List Value}, areKC cs a = true → eqL a a = true
  | [], [], _ => rfl
  | [], _ :: _, h => by cases h
  | _ :: _, [], h => by cases h
  | c :: cs, x :: a, h => by
    rw [areKC_cons] at h
    cases hc : isKC c x with
    | false => rw [hc] at h; cases h
    | true =>
      rw [hc] at h
      rw [eqL_cons, eqS_self hc]
      exact eqL_self (cs := cs) h
theorem eqKV_eq {a b : Value} (h : eqKV a b = true) : a = b := by
  unfold eqKV at h
  split at h
  · rename_i x y
    have := eqL_eq h
    obtain ⟨x⟩ := x
    obtain ⟨y⟩ := y
    simp at this
    rw [this]
  · exact eqS_eq h
theorem eqKV_self {ks : KS} {a : Value} (h : KP ks a) : eqKV a a = true := by
  cases ks with
  | one c =>
    have h' : isKC c a = true := h
    have := eqS_self h'
    cases a <;> first | exact this | (cases c <;> cases h')
  | agg cs =>
    obtain ⟨xs, rfl, h2⟩ := h
    exact eqL_self (cs := cs) h2
theorem eqKV_iff {ks : KS} {a b : Value} (h : KP ks a) : eqKV a b = true ↔ a = b := ⟨eqKV_eq, fun e => by rw [← e]; exact eqKV_self h⟩
theorem eqKV_no {ks : KS} {a b : Value} (h : KP ks a) : eqKV a b = false ↔ a ≠ b := by
  rw [Ne, ← eqKV_iff h]; simp

/-! ### maps -/
/-- A key among the entries: where it is found first. -/
theorem lookL_ok {β : Type} {key : Value} {k : Nat → AV → R β} {d : Unit → R β} {q : β} : ∀ {l : List AE}, lookL key l k d = .ok q →
    (∃ pre e post, l = pre ++ e :: post ∧ (∀ x ∈ pre, eqKV x.k key = false) ∧ eqKV e.k key = true ∧ k e.b e.v = .ok q) ∨ ((∀ x ∈ l, eqKV x.k key = false) ∧ d () = .ok q)
  | [], h => .inr ⟨by simp, h⟩
  | e :: l, h => by
    obtain ⟨x, b, v⟩ := e
    have h' : boolC (lookL key l k d) (k b v) (eqKV x key) = .ok q := h
    cases hx : eqKV x key with
    | true =>
      rw [hx] at h'
      exact .inl ⟨[], ⟨x, b, v⟩, l, rfl, by simp, hx, h'⟩
    | false =>
      rw [hx] at h'
      rcases lookL_ok (l := l) h' with ⟨pre, e, post, rfl, h1, h2, h3⟩ | ⟨h1, h2⟩
      · exact .inl ⟨⟨x, b, v⟩ :: pre, e, post, rfl, fun y hy => by rcases List.mem_cons.1 hy with rfl | hy; exact hx; exact h1 y hy, h2, h3⟩
      · exact .inr ⟨fun y hy => by rcases List.mem_cons.1 hy with rfl | hy; exact hx; exact h1 y hy, h2⟩
theorem F2.split {α γ : Type} {S : α → γ → Prop} : ∀ {pre : List α} {e : α} {post : List α} {m : List γ}, F2 S (pre ++ e :: post) m → ∃ pre' e' post', m = pre' ++ e' :: post' ∧ F2 S pre pre' ∧ S e e' ∧ F2 S post post'
  | [], _, _, _, h => by cases h with | cons h1 h2 => exact ⟨[], _, _, rfl, .nil, h1, h2⟩
  | _ :: _, _, _, _, h => by
    cases h with
    | cons h1 h2 =>
      obtain ⟨pre', e', post', rfl, h3, h4, h5⟩ := F2.split h2
      exact ⟨_ :: pre', e', post', rfl, .cons h1 h3, h4, h5⟩
theorem F2.all {α γ : Type} {S : α → γ → Prop} {A : α → Prop} {B : γ → Prop} {l : List α} {m : List γ} (h : F2 S l m) (ha : ∀ a ∈ l, A a) (hab : ∀ a b, S a b → A a → B b) : ∀ b ∈ m, B b := by
  induction h with
  | nil => simp
  | cons h1 _ ih =>
    intro b hb
    rcases List.mem_cons.1 hb with rfl | hb
    · exact hab _ _ h1 (ha _ (by simp))
    · exact ih (fun a h => ha a (by simp [h])) b hb
/-- Entries alike. -/
def ER (ρ : Ren) (e : AE) (e' : MapEntry) : Prop := e'.key = e.k ∧ e'.born = e.b ∧ Rl ρ e.v e'.val
theorem findV_miss {key : Value} : ∀ (l : List MapEntry) (i : Nat), (∀ e ∈ l, e.key ≠ key) → findV key l i = none
  | [], _, _ => rfl
  | e :: l, i, h => by
    unfold findV
    rw [if_neg (h e (by simp))]
    exact findV_miss l _ fun x hx => h x (by simp [hx])
theorem findV_hit {key : Value} : ∀ (pre : List MapEntry) (e : MapEntry) (post : List MapEntry) (i : Nat), (∀ x ∈ pre, x.key ≠ key) → e.key = key → findV key (pre ++ e :: post) i = some (i + pre.length, e.val)
  | [], e, post, i, _, h => by unfold findV; simp [h]
  | x :: pre, e, post, i, h, he => by
    simp only [List.cons_append]
    unfold findV
    rw [if_neg (h x (by simp)), findV_hit pre e post (i + 1) (fun y hy => h y (by simp [hy])) he]
    simp; omega

section
variable {P : Program} {E : Env} {s : Tr AV} {o : Oper} {H : AH} {r : ARes}

/-- An operation that looks at memory and leaves it. -/
def Ro (P : Program) (E : Env) (s : Tr AV) (o : Oper) (H : AH) (r : ARes) : Prop :=
  ∃ av, r = .val av H ∧ ∀ w0 ρ H2 w a, Keeps H H2 → HR E w0 ρ H2 w → Ctx E ρ s a o.op → ∃ v, (execOp a.eval o).run P w = .ok (.value v) w ∧ Rl ρ av v
theorem Pu.ro (h : Pu P E s o H r) : Ro P E s o H r := by
  obtain ⟨av, hr, h⟩ := h
  exact ⟨av, hr, fun w0 ρ H2 w a _ _ c => h ρ a w c⟩

theorem ro_load (EO : EnvOK P E) {t : TypeId} {x : Operand} (ho : o.op = .load t x) (h : opK E s (.load t x) H = .ok r) : Ro P E s o H r := by
  unfold opK at h
  dsimp only at h
  replace h := evK_ok h; obtain ⟨v, hv, h⟩ := h
  have one : ∃ av, r = .val av H ∧ ∀ w0 ρ H2 w a, Keeps H H2 → HR E w0 ρ H2 w → Ctx E ρ s a o.op → ∃ x' v', val x' H = .ok r ∧ (execOp a.eval o).run P w = .ok (.value v') w ∧ Rl ρ x' v' := by
    have key : ∀ w0 ρ H2 w a, Keeps H H2 → HR E w0 ρ H2 w → Ctx E ρ s a o.op → ∃ x' v', val x' H = .ok r ∧ (execOp a.eval o).run P w = .ok (.value v') w ∧ Rl ρ x' v' := by
      intro w0 ρ H2 w a hk hr c
      obtain ⟨ad, x', v', e1, e2, e3, e4⟩ := HR.load EO hk hr h (c.ev hv (by simp [ho, Op.operands]))
      refine ⟨x', v', e4, ?_, e3⟩
      simp only [execOp, ho, e1, Instr.loadAt, Instr.sureAddr, Sem.run_bind, Sem.run_pure, Result.andThen_ok, e2]
    have : ∃ av, r = .val av H := by
      unfold loadK at h
      split at h
      · obtain ⟨o', _, h⟩ := objK_ok h
        split at h
        · obtain ⟨i, _, h⟩ := tiK_ok h
          cases hag : isAggD i.desc with
          | false =>
            rw [hag] at h
            obtain ⟨_, h⟩ := boolC_er (x := getK _ _ _ _) h
            obtain ⟨x, _, h⟩ := getK_ok h
            exact ⟨_, val_ok h⟩
          | true =>
            rw [hag] at h
            obtain ⟨_, h⟩ := boolC_er (x := readK _ _ _ _) h
            obtain ⟨l, _, _, h⟩ := readK_spec h
            exact ⟨_, val_ok h⟩
        · cases h
      · cases h
    obtain ⟨av, hav⟩ := this
    exact ⟨av, hav, key⟩
  obtain ⟨av, hav, key⟩ := one
  refine ⟨av, hav, fun w0 ρ H2 w a hk hr c => ?_⟩
  obtain ⟨x', v', e1, e2, e3⟩ := key w0 ρ H2 w a hk hr c
  have := val_ok e1
  rw [hav] at this; cases this
  exact ⟨v', e2, e3⟩

/-- What a map is, for the evaluator. -/
theorem mapOf_ok {β : Type} {t : TypeId} {m : AV} {k : TypeId → TypeId → Nat → List AE → R β} {q : β} (h : mapOf E t m H k = .ok q) :
    ∃ i kt et c l, E.tt.get t = some i ∧ i.desc = .map kt et ∧ k kt et c l = .ok q ∧ ((m = .lit (.map none) ∧ c = 0 ∧ l = []) ∨ ∃ id, m = .map id ∧ H.t.get id = some (.map kt c l)) := by
  unfold mapOf at h
  replace h := tiK_ok h; obtain ⟨i, hi, h⟩ := h
  split at h
  · rename_i kt et hd
    split at h
    · exact ⟨i, kt, et, 0, [], hi, hd, h, .inl ⟨rfl, rfl, rfl⟩⟩
    · rename_i id
      replace h := objK_ok h; obtain ⟨o', ho', h⟩ := h
      split at h
      · rename_i kt' c l
        replace h := boolC_er h; obtain ⟨h1, h⟩ := h
        have h1' : kt' = kt := by simpa using h1
        subst h1'
        exact ⟨i, kt', et, c, l, hi, hd, h, .inr ⟨id, rfl, ho'⟩⟩
      · cases h
    · cases h
  · cases h
/-- The machine's map behind it. -/
theorem HR.map_at {w0 w : World} {ρ : Ren} {H : AH} (hr : HR E w0 ρ H w) {id : Nat} {kt : TypeId} {c : Nat} {l : List AE} {v : Value} (ho : H.t.get id = some (.map kt c l)) (hv : Rl ρ (.map id) v) :
    ∃ b sh N es, ρ id = some (b, sh, N) ∧ v = .map (some b) ∧ w.heap[b]? = some (.map es c) ∧ F2 (ER ρ) l es.toList ∧ ∃ ks, E.ky.get kt = some ks ∧ ∀ e ∈ l, KP ks e.k := by
  obtain ⟨b, sh, N, hb, rfl⟩ := hv.inv_map
  obtain ⟨es, h1, ⟨ks, h2, h3⟩, h4⟩ := hr.obj _ _ _ _ _ hb ho
  exact ⟨b, sh, N, es, hb, rfl, h1, h4, ks, h2, h3⟩

theorem er_keys {ρ : Ren} {ks : KS} {l : List AE} {es : List MapEntry} (h : F2 (ER ρ) l es) (hk : ∀ e ∈ l, KP ks e.k) : ∀ e ∈ es, KP ks e.key :=
  h.all hk fun a b hab ha => by rw [hab.1]; exact ha
theorem er_miss {ρ : Ren} {ks : KS} {l : List AE} {es : List MapEntry} {key : Value} (h : F2 (ER ρ) l es) (hk : ∀ e ∈ l, KP ks e.k) (hm : ∀ x ∈ l, eqKV x.k key = false) : ∀ e ∈ es, e.key ≠ key :=
  h.all (A := fun e => KP ks e.k ∧ eqKV e.k key = false) (fun a ha => ⟨hk a ha, hm a ha⟩) fun a b hab ha => by rw [hab.1]; exact (eqKV_no ha.1).1 ha.2

theorem zeroA_ok {β : Type} {i : TI} {t : TypeId} (T : TIOK P t i) {k : AV → R β} {q : β} (h : zeroA i.desc i.zero k = .ok q) : ∃ z, k z = .ok q ∧ ∀ (ρ : Ren) (w : World), ∃ zv, (zeroValue t).run P w = .ok zv w ∧ Rl ρ z zv := by
  unfold zeroA at h
  obtain ⟨x, zv, h1, h2, h3, h4, h5, h6⟩ := T.info
  have hz : ∀ w, (zeroValue t).run P w = .ok zv w := fun w => by simp [zeroValue, typeInfo, h1, h4]
  rcases h6 with ⟨ha, cs, rfl⟩ | ⟨ha, hone⟩
  · rw [ha] at h
    refine ⟨.agg i.zero, h, fun ρ w => ⟨_, hz w, .agg ?_⟩⟩
    rw [h5]; exact rl_lits _
  · rw [ha, boolC_false] at h
    have hc := cells_one hone
    rw [hc] at h5
    have h5' : i.zero = [.lit zv] := by simpa using h5
    rw [h5'] at h
    exact ⟨.lit zv, h, fun ρ w => ⟨_, hz w, .lit _⟩⟩

theorem ro_lookup (EO : EnvOK P E) {t : TypeId} {x y : Operand} {ok : Bool} (ho : o.op = .lookup t x y ok) (h : opK E s (.lookup t x y ok) H = .ok r) : Ro P E s o H r := by
  unfold opK at h
  dsimp only at h
  replace h := evK_ok h; obtain ⟨m, hm, h⟩ := h
  replace h := evK_ok h; obtain ⟨kv, hkv, h⟩ := h
  unfold lookupK at h
  replace h := mapOf_ok h; obtain ⟨i, kt, et, c, l, hi, hd, h, hl⟩ := h
  replace h := keyK_ok h; obtain ⟨ks, key, hks, hkp, h, hkey⟩ := h
  have T := EO.tt _ _ hi
  have hu : P.underlying t = some (.map kt et) := by have := T.und; rwa [hd] at this
  have KO := (EO.ky _ _ hks).ko
  -- what the machine finds
  have mach : ∀ w0 ρ H2 w a, Keeps H H2 → HR E w0 ρ H2 w → Ctx E ρ s a o.op → ∃ es : List MapEntry, F2 (ER ρ) l es ∧ (∀ e ∈ l, KP ks e.k) ∧
      (∀ p, findV key es 0 = some p → (execOp a.eval o).run P w = .ok (.value (if ok then .tuple #[p.2, .bool true] else p.2)) w) ∧
      (∀ z, findV key es 0 = none → (zeroValue et).run P w = .ok z w → (execOp a.eval o).run P w = .ok (.value (if ok then .tuple #[z, .bool false] else z)) w) := by
    intro w0 ρ H2 w a hk hr ct
    have e2 := hkey ρ _ (ct.ev hkv (by simp [ho, Op.operands]))
    rcases hl with ⟨rfl, _, rfl⟩ | ⟨id, rfl, hid⟩
    · have e1 := (ct.ev hm (by simp [ho, Op.operands])).inv_lit
      have hf := KO.find key [] w hkp (by simp)
      have hc := KO.check true key w hkp
      refine ⟨[], .nil, by simp, fun p hp => by simp [findV] at hp, fun z _ hz => ?_⟩
      cases ok <;> simp [execOp, ho, e1, e2, Instr.lookup, run_underlying hu, Sem.run_bind, hc, hf, findV, hz, Result.andThen]
    · obtain ⟨b, sh, N, es, hb, e1, hes, hF, ks', hks', hkp'⟩ := hr.map_at (hk _ _ hid) (ct.ev hm (by simp [ho, Op.operands]))
      rw [hks] at hks'; cases hks'
      have hf := KO.find key es.toList w hkp (er_keys hF hkp')
      have hc := fun e => KO.check e key w hkp
      refine ⟨es.toList, hF, hkp', fun p hv => ?_, fun z hv hz => ?_⟩
      · cases ok <;> simp [execOp, ho, e1, e2, Instr.lookup, run_underlying hu, Sem.run_bind, getObj, Sem.run, hes, hc, hf, hv, Result.andThen]
      · cases ok <;> simp [execOp, ho, e1, e2, Instr.lookup, run_underlying hu, Sem.run_bind, getObj, Sem.run, hes, hc, hf, hv, hz, Result.andThen]
  rcases lookL_ok h with ⟨pre, e, post, rfl, h1, h2, h3⟩ | ⟨h1, h2⟩
  · have fin : ∀ (av : AV), r = .val av H → (∀ (ρ : Ren) v, Rl ρ e.v v → Rl ρ av (if ok then .tuple #[v, .bool true] else v)) → Ro P E s o H r := by
      intro av hav hrel
      refine ⟨av, hav, fun w0 ρ H2 w a hk hr ct => ?_⟩
      obtain ⟨es, hF, hkp', hrun, _⟩ := mach w0 ρ H2 w a hk hr ct
      obtain ⟨pre', e', post', rfl, f1, f2, f3⟩ := hF.split
      have hmiss := er_miss f1 (fun x hx => hkp' x (by simp [hx])) h1
      have hek : e'.key = key := by rw [f2.1]; exact eqKV_eq h2
      have := hrun _ (findV_hit pre' e' post' 0 hmiss hek)
      exact ⟨_, this, hrel ρ _ f2.2.2⟩
    cases ok with
    | false => exact fin _ (val_ok h3) fun ρ v hv => hv
    | true => exact fin _ (val_ok h3) fun ρ v hv => .tup (.cons hv (.cons (.lit _) .nil))
  · replace h2 := tiK_ok h2; obtain ⟨j, hj, h2⟩ := h2
    obtain ⟨z, h3, hz⟩ := zeroA_ok (EO.tt _ _ hj) h2
    have fin : ∀ (av : AV), r = .val av H → (∀ (ρ : Ren) v, Rl ρ z v → Rl ρ av (if ok then .tuple #[v, .bool false] else v)) → Ro P E s o H r := by
      intro av hav hrel
      refine ⟨av, hav, fun w0 ρ H2 w a hk hr ct => ?_⟩
      obtain ⟨es, hF, hkp', _, hrun⟩ := mach w0 ρ H2 w a hk hr ct
      obtain ⟨zv, hzv, hzr⟩ := hz ρ w
      have := hrun zv (findV_miss es 0 (er_miss hF hkp' h1)) hzv
      exact ⟨_, this, hrel ρ _ hzr⟩
    cases ok with
    | false => exact fin _ (val_ok h3) fun ρ v hv => hv
    | true => exact fin _ (val_ok h3) fun ρ v hv => .tup (.cons hv (.cons (.lit _) .nil))

theorem builtinK_len (ts : List TypeId) (args : List AV) : builtinK E .len ts args H = match ts, args with | [t], [x] => lenA E t x H | _, _ => .er [77] := by
  unfold builtinK
  rcases ts with _ | ⟨t, _ | ⟨t', ts⟩⟩ <;> rcases args with _ | ⟨x, _ | ⟨y, l⟩⟩ <;> rfl

theorem sizeL_ok {α : Type} {l : List α} (h : sizeL l H = .ok r) : r = .val (.lit (.int .i64 l.length)) H := by
  unfold sizeL at h
  rw [lenK_eq] at h
  exact val_ok h
theorem array_of_toList {α : Type} {a : Array α} {l : List α} (h : a.toList = l) : a = l.toArray := by rw [← h]

theorem ro_len (EO : EnvOK P E) {args : Array Operand} {ts : Array TypeId} (ho : o.op = .call { callee := .builtin .len, args := args, argTypes := ts })
    (h : opK E s (.call { callee := .builtin .len, args := args, argTypes := ts }) H = .ok r) : Ro P E s o H r := by
  unfold opK at h
  dsimp only at h
  replace h := evL_ok h; obtain ⟨vs, hvs, h⟩ := h
  rw [builtinK_len] at h
  have key : ∃ t x, ts.toList = [t] ∧ vs = [x] ∧ lenA E t x H = .ok r := by
    split at h
    · rename_i e; exact ⟨_, _, e, rfl, h⟩
    · cases h
  clear h
  obtain ⟨t, x, hts, rfl, h⟩ := key
  obtain ⟨ox, hl, hx⟩ := f2_one hvs
  have hargs : args = #[ox] := array_of_toList hl
  have htsa : ts = #[t] := array_of_toList hts
  unfold lenA at h
  replace h := tiK_ok h; obtain ⟨i, hi, h⟩ := h
  have hu := (EO.tt _ _ hi).und
  have hop : ∀ z ∈ args.toList, z ∈ o.op.operands.toList := by
    intro z hz
    simp only [ho, Op.operands, Call.operands, Array.toList_append, List.mem_append]; exact .inr hz
  have hrun : ∀ (a : Act) (w : World) v n, a.eval ox = v → (Builtin.len_ #[t] o.type #[v]).run P w = .ok (goInt n) w → (execOp a.eval o).run P w = .ok (.value (.int .i64 n)) w := by
    intro a w v n e1 e2
    rw [run_builtin ho, htsa]
    have : args.map a.eval = #[v] := by rw [hargs]; simp [e1]
    rw [this]
    simp only [builtin, Sem.run_bind, e2, Result.andThen_ok, Sem.run_pure, goInt]
  have pu : ∀ n : Nat, r = .val (.lit (.int .i64 n)) H → (∀ (ρ : Ren) v w, Rl ρ x v → (Builtin.len_ #[t] o.type #[v]).run P w = .ok (goInt n) w) → Ro P E s o H r := by
    intro n hr hall
    exact ⟨_, hr, fun w0 ρ H2 w a _ _ c => ⟨_, hrun a w _ n rfl (hall ρ _ w (c.ev hx (hop _ (by simp [hargs])))), .lit _⟩⟩
  split at h
  · rename_i hd
    rw [hd] at hu
    refine pu _ (val_ok h) fun ρ v w hv => ?_
    obtain ⟨b, sh, N, c, _, _, _, _, _, _, rfl⟩ := hv.inv_sl
    simp [Builtin.len_, run_underlying hu]
  · rename_i hd
    rw [hd] at hu
    refine pu 0 (val_ok h) fun ρ v w hv => ?_
    obtain ⟨b, c, rfl⟩ := hv.inv_esl
    simp [Builtin.len_, run_underlying hu]
  · rename_i hd
    rw [hd] at hu
    refine pu _ (val_ok h) fun ρ v w hv => ?_
    rw [hv.inv_lit]
    simp [Builtin.len_, run_underlying hu]
  · rename_i str hd
    rw [hd] at hu
    refine pu _ (sizeL_ok h) fun ρ v w hv => ?_
    rw [hv.inv_lit]
    rw [show str.data.toList.length = str.size from Array.length_toList]
    simp [Builtin.len_, run_underlying hu]
  · rename_i hd
    rw [hd] at hu
    refine pu 0 (val_ok h) fun ρ v w hv => ?_
    rw [hv.inv_lit]
    simp [Builtin.len_, run_underlying hu]
  · rename_i kt et id hd
    rw [hd] at hu
    replace h := objK_ok h; obtain ⟨o', ho', h⟩ := h
    split at h
    · rename_i kt' c l
      refine ⟨_, sizeL_ok h, fun w0 ρ H2 w a hk hr ct => ⟨_, hrun a w _ l.length rfl ?_, .lit _⟩⟩
      obtain ⟨b, sh, N, es, hb, e1, hes, hF, _⟩ := hr.map_at (hk _ _ ho') (ct.ev hx (hop _ (by simp [hargs])))
      rw [e1, hF.length]
      simp [Builtin.len_, run_underlying hu, Sem.run_bind, getObj, Sem.run, hes, Result.andThen]
    · cases h
  · rename_i n e hd
    rw [hd] at hu
    refine pu _ (val_ok h) fun ρ v w hv => ?_
    simp [Builtin.len_, run_underlying hu]
  · cases h
end
end Go.Proofs.YtclljjfkaljdnaaGreatDoor
