/- The evaluator's operations that change memory: stores, maps. No program in sight. -/
import Derived.Test.YtclljjfkaljdnaaGreatDoorE11
namespace Go.Proofs.YtclljjfkaljdnaaGreatDoor
open Go.RowKit

section
variable {P : Program} {E : Env} {s : Tr AV} {o : Oper} {H : AH} {r : ARes}

/-- An operation that may change memory. -/
def Wr (P : Program) (E : Env) (s : Tr AV) (o : Oper) (H : AH) (r : ARes) : Prop :=
  ∀ w0 ρ w a, HR E w0 ρ H w → Ctx E ρ s a o.op → ∃ av H' v w' ρ', r = .val av H' ∧ ((execOp a.eval o).run P w = .ok (.value v) w' ∨ ((execOp a.eval o).run P w = .ok .skip w' ∧ v = undef)) ∧
    Rl ρ' av v ∧ HR E w0 ρ' H' w' ∧ Later ρ H ρ' H'

theorem Keeps.refl (H : AH) : Keeps H H := fun _ _ h => h
theorem Ro.wr (h : Ro P E s o H r) : Wr P E s o H r := by
  obtain ⟨av, hr, h⟩ := h
  intro w0 ρ w a hh c
  obtain ⟨v, h1, h2⟩ := h w0 ρ H w a (Keeps.refl H) hh c
  exact ⟨av, H, v, w, ρ, hr, .inl h1, h2, hh, Later.refl _ _⟩
theorem HR.gl {w0 w : World} {ρ : Ren} (h : HR E w0 ρ H w) : Gl E ρ := h.glob
theorem Al.wr (h : Al P E s o H r) : Wr P E s o H r := by
  obtain ⟨av, ob, H', hr, hA, hro, h⟩ := h
  intro w0 ρ w a hh c
  obtain ⟨x, N, v, h1, h2, h3⟩ := h ρ a w c hh.fresh
  obtain ⟨h4, h5⟩ := hh.alloc hA h2
  exact ⟨av, H', v, w.alloc x, _, hr, .inl h1, h3, h4, h5⟩

theorem wr_store (EO : EnvOK P E) {t : TypeId} {x y : Operand} (ho : o.op = .store t x y) (h : opK E s (.store t x y) H = .ok r) : Wr P E s o H r := by
  unfold opK at h
  dsimp only at h
  replace h := evK_ok h; obtain ⟨av, hav, h⟩ := h
  replace h := evK_ok h; obtain ⟨bv, hbv, h⟩ := h
  intro w0 ρ w a hh c
  obtain ⟨ad, w', H', e1, e2, h1, h2, h3⟩ := HR.store EO hh h (c.ev hav (by simp [ho, Op.operands])) (c.ev hbv (by simp [ho, Op.operands]))
  refine ⟨_, H', undef, w', ρ, val_ok h3, .inr ⟨?_, rfl⟩, .lit _, h1, h2⟩
  simp only [execOp, ho, e1, Instr.storeAt, Instr.sureAddr, Sem.run_bind, Sem.run_pure, Result.andThen_ok, e2]

/-! ### maps -/
/-- One entry, at its place. -/
theorem putL_ok {β : Type} {c : Nat} {key : Value} {v : AV} {q : β} : ∀ {l : List AE} {k : Nat → List AE → R β}, putL c key v l k = .ok q →
    (∃ pre e post, l = pre ++ e :: post ∧ (∀ x ∈ pre, eqKV x.k key = false) ∧ eqKV e.k key = true ∧ k c (pre ++ ⟨key, e.b, v⟩ :: post) = .ok q) ∨
    ((∀ x ∈ l, eqKV x.k key = false) ∧ k (c + 1) (l ++ [⟨key, c, v⟩]) = .ok q)
  | [], k, h => by
    have h' : forceN (Nat.succ c) (fun c' => k c' [⟨key, c, v⟩]) = .ok q := h
    rw [forceN_eq] at h'
    exact .inr ⟨by simp, h'⟩
  | e :: l, k, h => by
    obtain ⟨x, b, u⟩ := e
    have h' : boolC (putL c key v l fun c' r => k c' (⟨x, b, u⟩ :: r)) (k c (⟨key, b, v⟩ :: l)) (eqKV x key) = .ok q := h
    cases hx : eqKV x key with
    | true => rw [hx] at h'; exact .inl ⟨[], ⟨x, b, u⟩, l, rfl, by simp, hx, h'⟩
    | false =>
      rw [hx] at h'
      rcases putL_ok (l := l) h' with ⟨pre, e, post, rfl, h1, h2, h3⟩ | ⟨h1, h2⟩
      · exact .inl ⟨⟨x, b, u⟩ :: pre, e, post, rfl, fun y hy => by rcases List.mem_cons.1 hy with rfl | hy; exact hx; exact h1 y hy, h2, h3⟩
      · exact .inr ⟨fun y hy => by rcases List.mem_cons.1 hy with rfl | hy; exact hx; exact h1 y hy, h2⟩
theorem dropL_ok {β : Type} {key : Value} {q : β} : ∀ {l : List AE} {k : List AE → R β}, dropL key l k = .ok q →
    (∃ pre e post, l = pre ++ e :: post ∧ (∀ x ∈ pre, eqKV x.k key = false) ∧ eqKV e.k key = true ∧ k (pre ++ post) = .ok q) ∨ ((∀ x ∈ l, eqKV x.k key = false) ∧ k l = .ok q)
  | [], k, h => .inr ⟨by simp, h⟩
  | e :: l, k, h => by
    obtain ⟨x, b, u⟩ := e
    have h' : boolC (dropL key l fun r => k (⟨x, b, u⟩ :: r)) (k l) (eqKV x key) = .ok q := h
    cases hx : eqKV x key with
    | true => rw [hx] at h'; exact .inl ⟨[], ⟨x, b, u⟩, l, rfl, by simp, hx, h'⟩
    | false =>
      rw [hx] at h'
      rcases dropL_ok (l := l) h' with ⟨pre, e, post, rfl, h1, h2, h3⟩ | ⟨h1, h2⟩
      · exact .inl ⟨⟨x, b, u⟩ :: pre, e, post, rfl, fun y hy => by rcases List.mem_cons.1 hy with rfl | hy; exact hx; exact h1 y hy, h2, h3⟩
      · exact .inr ⟨fun y hy => by rcases List.mem_cons.1 hy with rfl | hy; exact hx; exact h1 y hy, h2⟩
theorem stampL_ok {β : Type} {n : Nat} {v : AV} {q : β} : ∀ {l : List AE} {k : List AE → R β}, stampL n v l k = .ok q →
    ∃ pre e post, l = pre ++ e :: post ∧ (∀ x ∈ pre, x.b ≠ n) ∧ e.b = n ∧ k (pre ++ ⟨e.k, e.b, v⟩ :: post) = .ok q
  | [], k, h => by cases h
  | e :: l, k, h => by
    obtain ⟨x, b, u⟩ := e
    have h' : boolC (stampL n v l fun r => k (⟨x, b, u⟩ :: r)) (k (⟨x, b, v⟩ :: l)) (Nat.beq b n) = .ok q := h
    cases hx : Nat.beq b n with
    | true => rw [hx] at h'; exact ⟨[], ⟨x, b, u⟩, l, rfl, by simp, Nat.beq_eq.mp hx, h'⟩
    | false =>
      rw [hx] at h'
      obtain ⟨pre, e, post, rfl, h1, h2, h3⟩ := stampL_ok (l := l) h'
      refine ⟨⟨x, b, u⟩ :: pre, e, post, rfl, fun y hy => ?_, h2, h3⟩
      rcases List.mem_cons.1 hy with rfl | hy
      · intro e; rw [← Nat.beq_eq, hx] at e; cases e
      · exact h1 y hy

theorem modify_mid {α : Type} (f : α → α) : ∀ (pre : List α) (e : α) (post : List α), (pre ++ e :: post).modify pre.length f = pre ++ f e :: post
  | [], _, _ => rfl
  | x :: pre, e, post => by
    simp only [List.cons_append, List.length_cons, List.modify_succ_cons]
    rw [modify_mid f pre e post]
theorem F2.get_mid {α γ : Type} {S : α → γ → Prop} {l l2 : List α} {m m2 : List γ} {a : α} {b : γ} (h1 : F2 S l m) (h : S a b) (h2 : F2 S l2 m2) : F2 S (l ++ a :: l2) (m ++ b :: m2) := h1.append (.cons h h2)

/-- A map turned, in both. -/
theorem HR.remap {w0 w : World} {ρ : Ren} {H' : AH} (hr : HR E w0 ρ H w) {id b sh N : Nat} {kt : TypeId} {c c' : Nat} {l l' : List AE} {es es' : Array MapEntry} (hi : ρ id = some (b, sh, N)) (ho : H.t.get id = some (.map kt c l)) (hw : w.heap[b]? = some (.map es c))
    (hT : Turned H id (some (.map kt c' l')) H') (hF : F2 (ER ρ) l' es'.toList) (hk : ∃ ks, E.ky.get kt = some ks ∧ ∀ e ∈ l', KP ks e.k) :
    HR E w0 ρ H' { w with heap := w.heap.setIfInBounds b (.map es' c') } ∧ Later ρ H ρ H' := by
  refine hr.turn hi ho rfl rfl hT ?_ (by simp) (fun k hk => ?_) rfl rfl rfl
  · rw [show ({ w with heap := w.heap.setIfInBounds b (.map es' c') } : World).heap[b]? = some (.map es' c') from by
      show (w.heap.setIfInBounds b (.map es' c'))[b]? = _
      rw [Array.getElem?_setIfInBounds, if_pos rfl, if_pos (blk_lt hw)]]
    exact ⟨es', rfl, hk, hF⟩
  · show (w.heap.setIfInBounds b (.map es' c'))[k]? = _
    rw [Array.getElem?_setIfInBounds, if_neg (fun e => hk e.symm)]

/-- 'm[k] = v' by the machine. -/
theorem run_update {kt et : TypeId} {t : TypeId} {K : Value → Prop} (KO : KeyOK P kt K) (ht : P.underlying t = some (.map kt et)) {w : World} {b c : Nat} {es : Array MapEntry} (hb : w.heap[b]? = some (.map es c)) (hl : ∀ e ∈ es.toList, K e.key) {key : Value} (hk : K key) (v : Value) :
    (∀ pre e post, es.toList = pre ++ e :: post → (∀ x ∈ pre, x.key ≠ key) → e.key = key → ∃ es', es'.toList = pre ++ { e with key := key, val := v } :: post ∧
      (Instr.mapUpdate t (.map (some b)) key v).run P w = .ok () { w with heap := w.heap.setIfInBounds b (.map es' c) }) ∧
    ((∀ x ∈ es.toList, x.key ≠ key) → ∃ es', es'.toList = es.toList ++ [{ key := key, val := v, born := c }] ∧
      (Instr.mapUpdate t (.map (some b)) key v).run P w = .ok () { w with heap := w.heap.setIfInBounds b (.map es' (c + 1)) }) := by
  have hf := KO.find key es.toList w hk hl
  constructor
  · intro pre e post h1 h2 h3
    have hv := findV_hit pre e post 0 h2 h3
    rw [← h1] at hv
    have hget : es[pre.length]? = some e := by
      rw [← Array.getElem?_toList, h1, List.getElem?_append_right (Nat.le_refl _)]; simp
    refine ⟨es.modify pre.length fun e => { e with key := key, val := v }, by rw [Array.toList_modify, h1, modify_mid], ?_⟩
    unfold Instr.mapUpdate
    simp only [Sem.run_bind, run_underlying ht, Result.andThen_ok, getObj, Sem.run, hb, KO.check _ _ _ hk, hf, hv]
    have hs : Instr.sameBits 10000 e.key key = true := by rw [h3]; exact KO.same _ hk
    simp [Instr.keyThatStays, hget, hs, setObj, Sem.run, hb]
  · intro hn
    have hv := findV_miss es.toList 0 hn
    refine ⟨es.push { key := key, val := v, born := c }, by simp, ?_⟩
    unfold Instr.mapUpdate
    simp [Sem.run_bind, run_underlying ht, getObj, Sem.run, hb, KO.check _ _ _ hk, hf, hv, setObj, Result.andThen]

theorem wr_update (EO : EnvOK P E) {t : TypeId} {x y z : Operand} (ho : o.op = .mapUpdate t x y z ∨ o.op = .insert t x y z) (h : opK E s (.mapUpdate t x y z) H = .ok r) : Wr P E s o H r := by
  unfold opK at h
  dsimp only at h
  replace h := evK_ok h; obtain ⟨m, hm, h⟩ := h
  replace h := evK_ok h; obtain ⟨kv, hkv, h⟩ := h
  replace h := evK_ok h; obtain ⟨v, hv, h⟩ := h
  unfold updateK at h
  split at h
  · rename_i id
    replace h := mapOf_ok h; obtain ⟨i, kt, et, c, l, hi, hd, h, hl⟩ := h
    obtain ⟨_, e0, hid⟩ := hl.resolve_left (by rintro ⟨e, _⟩; cases e)
    cases e0
    replace h := keyK_ok h; obtain ⟨ks, key, hks, hkp, h, hkey⟩ := h
    have hu : P.underlying t = some (.map kt et) := by have := (EO.tt _ _ hi).und; rwa [hd] at this
    have KO := (EO.ky _ _ hks).ko
    intro w0 ρ w a hh ct
    have hx : x ∈ o.op.operands.toList := by rcases ho with ho | ho <;> simp [ho, Op.operands]
    have hy : y ∈ o.op.operands.toList := by rcases ho with ho | ho <;> simp [ho, Op.operands]
    have hz : z ∈ o.op.operands.toList := by rcases ho with ho | ho <;> simp [ho, Op.operands]
    have e2 := hkey ρ _ (ct.ev hkv hy)
    have e3 := ct.ev hv hz
    obtain ⟨b, sh, N, es, hb, e1, hes, hF, ks', hks', hkp'⟩ := hh.map_at hid (ct.ev hm hx)
    rw [hks] at hks'; cases hks'
    obtain ⟨R1, R2⟩ := run_update (P := P) KO hu hes (er_keys hF hkp') hkp (a.eval z)
    have hexec : ∀ w', (Instr.mapUpdate t (.map (some b)) key (a.eval z)).run P w = .ok () w' → (execOp a.eval o).run P w = .ok .skip w' := by
      intro w' hw'
      rcases ho with ho | ho <;> simp [execOp, ho, e1, e2, hw']
    rcases putL_ok h with ⟨pre, e, post, rfl, h1, h2, h3⟩ | ⟨h1, h2⟩
    · replace h3 := updK_ok h3; obtain ⟨H', hT, h3⟩ := h3
      obtain ⟨pre', e', post', hes', f1, f2, f3⟩ := hF.split
      have hmiss := er_miss f1 (fun x hx => hkp' x (by simp [hx])) h1
      have hek : e'.key = key := by rw [f2.1]; exact eqKV_eq h2
      obtain ⟨es', q1, q2⟩ := R1 pre' e' post' hes' hmiss hek
      have hF' : F2 (ER ρ) (pre ++ ⟨key, e.b, v⟩ :: post) es'.toList := by
        rw [q1]
        exact f1.get_mid ⟨rfl, f2.2.1, e3⟩ f3
      obtain ⟨g1, g2⟩ := hh.remap hb hid hes hT hF' ⟨ks, hks, fun e he => by
        simp only [List.mem_append, List.mem_cons] at he
        rcases he with he | rfl | he
        · exact hkp' e (by simp [he])
        · exact hkp
        · exact hkp' e (by simp [he])⟩
      exact ⟨_, H', undef, _, ρ, val_ok h3, .inr ⟨hexec _ q2, rfl⟩, .lit _, g1, g2⟩
    · replace h2 := updK_ok h2; obtain ⟨H', hT, h2⟩ := h2
      obtain ⟨es', q1, q2⟩ := R2 (er_miss hF hkp' h1)
      have hF' : F2 (ER ρ) (l ++ [⟨key, c, v⟩]) es'.toList := by
        rw [q1]
        exact hF.append (.cons ⟨rfl, rfl, e3⟩ .nil)
      obtain ⟨g1, g2⟩ := hh.remap hb hid hes hT hF' ⟨ks, hks, fun e he => by
        simp only [List.mem_append, List.mem_singleton] at he
        rcases he with he | rfl
        · exact hkp' e he
        · exact hkp⟩
      exact ⟨_, H', undef, _, ρ, val_ok h2, .inr ⟨hexec _ q2, rfl⟩, .lit _, g1, g2⟩
  · cases h

theorem Turned.same {id : Nat} {ob : AO} (h : H.t.get id = some ob) : Turned H id (some ob) H := by
  refine ⟨rfl, fun j => ?_⟩
  split
  · rename_i e; rw [e, h]
  · rfl

theorem wr_entry (EO : EnvOK P E) {t : TypeId} {x y : Operand} (ho : o.op = .mapEntry t x y) (h : opK E s (.mapEntry t x y) H = .ok r) : Wr P E s o H r := by
  unfold opK at h
  dsimp only at h
  replace h := evK_ok h; obtain ⟨m, hm, h⟩ := h
  replace h := evK_ok h; obtain ⟨kv, hkv, h⟩ := h
  unfold entryK at h
  split at h
  · rename_i id
    replace h := mapOf_ok h; obtain ⟨i, kt, et, c, l, hi, hd, h, hl⟩ := h
    obtain ⟨_, e0, hid⟩ := hl.resolve_left (by rintro ⟨e, _⟩; cases e)
    cases e0
    replace h := keyK_ok h; obtain ⟨ks, key, hks, hkp, h, hkey⟩ := h
    have hu : P.underlying t = some (.map kt et) := by have := (EO.tt _ _ hi).und; rwa [hd] at this
    have KO := (EO.ky _ _ hks).ko
    intro w0 ρ w a hh ct
    have e2 := hkey ρ _ (ct.ev hkv (by simp [ho, Op.operands]))
    obtain ⟨b, sh, N, es, hb, e1, hes, hF, ks', hks', hkp'⟩ := hh.map_at hid (ct.ev hm (by simp [ho, Op.operands]))
    rw [hks] at hks'; cases hks'
    have hf := KO.find key es.toList w hkp (er_keys hF hkp')
    rcases lookL_ok h with ⟨pre, e, post, rfl, h1, h2, h3⟩ | ⟨h1, h2⟩
    · obtain ⟨pre', e', post', hes', f1, f2, f3⟩ := hF.split
      have hmiss := er_miss f1 (fun x hx => hkp' x (by simp [hx])) h1
      have hek : e'.key = key := by rw [f2.1]; exact eqKV_eq h2
      have hv := findV_hit pre' e' post' 0 hmiss hek
      rw [← hes'] at hv
      have hget : es[pre'.length]? = some e' := by
        rw [← Array.getElem?_toList, hes', List.getElem?_append_right (Nat.le_refl _)]; simp
      have hmod : (es.modify pre'.length fun e => { e with key := key }).toList = es.toList := by
        rw [Array.toList_modify, hes', modify_mid, ← hek]
      have hs : Instr.sameBits 10000 e'.key key = true := by rw [hek]; exact KO.same _ hkp
      have hrun : (execOp a.eval o).run P w = .ok (.value (.tuple #[e'.val, .int .i64 e'.born])) { w with heap := w.heap.setIfInBounds b (.map (es.modify pre'.length fun e => { e with key := key }) c) } := by
        unfold execOp
        simp only [ho, e1, e2, Instr.mapEntry, Sem.run_bind, run_underlying hu, Result.andThen_ok, getObj, Sem.run, hes, KO.check _ _ _ hkp, hf, hv]
        simp [Instr.keyThatStays, hget, hs, setObj, Sem.run, hes, goInt]
      obtain ⟨g1, g2⟩ := hh.remap (H' := H) (l' := pre ++ e :: post) hb hid hes (Turned.same hid) (by rw [hmod]; exact hF) ⟨ks, hks, hkp'⟩
      refine ⟨_, H, _, _, ρ, val_ok h3, .inl hrun, .tup (.cons f2.2.2 (.cons ?_ .nil)), g1, g2⟩
      rw [f2.2.1]; exact .lit _
    · replace h2 := tiK_ok h2; obtain ⟨j, hj, h2⟩ := h2
      obtain ⟨z, h3, hz⟩ := zeroA_ok (EO.tt _ _ hj) h2
      obtain ⟨zv, hzv, hzr⟩ := hz ρ w
      rcases putL_ok h3 with ⟨pre, e, post, rfl, h4, h5, h6⟩ | ⟨h4, h5⟩
      · have := h1 e (by simp)
        rw [h5] at this; cases this
      · replace h5 := updK_ok h5; obtain ⟨H', hT, h5⟩ := h5
        have hv := findV_miss es.toList 0 (er_miss hF hkp' h1)
        have hrun : (execOp a.eval o).run P w = .ok (.value (.tuple #[zv, .int .i64 c])) { w with heap := w.heap.setIfInBounds b (.map (es.push { key := key, val := zv, born := c }) (c + 1)) } := by
          unfold execOp
          simp only [ho, e1, e2, Instr.mapEntry, Sem.run_bind, run_underlying hu, Result.andThen_ok, getObj, Sem.run, hes, KO.check _ _ _ hkp, hf, hv, hzv]
          simp [setObj, Sem.run, hes, goInt]
        have hF' : F2 (ER ρ) (l ++ [⟨key, c, z⟩]) (es.push { key := key, val := zv, born := c }).toList := by
          rw [Array.toList_push]
          exact hF.append (.cons ⟨rfl, rfl, hzr⟩ .nil)
        obtain ⟨g1, g2⟩ := hh.remap hb hid hes hT hF' ⟨ks, hks, fun e he => by
          simp only [List.mem_append, List.mem_singleton] at he
          rcases he with he | rfl
          · exact hkp' e he
          · exact hkp⟩
        exact ⟨_, H', _, _, ρ, val_ok h5, .inl hrun, .tup (.cons hzr (.cons (.lit _) .nil)), g1, g2⟩
  · cases h

theorem findIdx_mid (p : MapEntry → Bool) : ∀ (pre : List MapEntry) (e : MapEntry) (post : List MapEntry), (∀ x ∈ pre, p x = false) → p e = true → (pre ++ e :: post).findIdx? p = some pre.length
  | [], e, post, _, h => by simp [List.findIdx?_cons, h]
  | x :: pre, e, post, h, he => by
    simp only [List.cons_append, List.findIdx?_cons, h x (by simp)]
    rw [findIdx_mid p pre e post (fun y hy => h y (by simp [hy])) he]
    simp

theorem wr_stamp {t : TypeId} {x y z : Operand} (ho : o.op = .entryStore t x y z) (h : opK E s (.entryStore t x y z) H = .ok r) : Wr P E s o H r := by
  unfold opK at h
  dsimp only at h
  replace h := evK_ok h; obtain ⟨m, hm, h⟩ := h
  replace h := evK_ok h; obtain ⟨kv, hkv, h⟩ := h
  replace h := evK_ok h; obtain ⟨v, hv, h⟩ := h
  unfold stampK at h
  split at h
  · rename_i id
    replace h := natK_ok h; obtain ⟨j, n, rfl, h⟩ := h
    replace h := objK_ok h; obtain ⟨ob, hid, h⟩ := h
    split at h
    · rename_i kt c l
      replace h := stampL_ok h; obtain ⟨pre, e, post, rfl, h1, h2, h⟩ := h
      replace h := updK_ok h; obtain ⟨H', hT, h⟩ := h
      intro w0 ρ w a hh ct
      have e2 := natV (ct.ev hkv (by simp [ho, Op.operands]))
      have e3 := ct.ev hv (by simp [ho, Op.operands])
      obtain ⟨b, sh, N, es, hb, e1, hes, hF, ks, hks, hkp'⟩ := hh.map_at hid (ct.ev hm (by simp [ho, Op.operands]))
      obtain ⟨pre', e', post', hes', f1, f2, f3⟩ := hF.split
      have hfi : es.findIdx? (fun e => (e.born : Int) == (n : Int)) = some pre'.length := by
        have : es = (pre' ++ e' :: post').toArray := by rw [← hes']
        rw [this, List.findIdx?_toArray]
        refine findIdx_mid _ pre' e' post' ?_ ?_
        · exact f1.all (A := fun a => a.b ≠ n) h1 fun a b hab ha => by
            rw [hab.2.1]; simp; omega
        · rw [f2.2.1, h2]; simp
      have hrun : (execOp a.eval o).run P w = .ok .skip { w with heap := w.heap.setIfInBounds b (.map (es.modify pre'.length fun e => { e with val := a.eval z }) c) } := by
        unfold execOp
        simp only [ho, e1, e2, Instr.entryStore, Sem.run_bind, Result.andThen_ok, getObj, Sem.run, hes, asInt, asIntOf, Sem.run_pure, hfi]
        simp [setObj, Sem.run, hes]
      have hF' : F2 (ER ρ) (pre ++ ⟨e.k, e.b, v⟩ :: post) (es.modify pre'.length fun e => { e with val := a.eval z }).toList := by
        rw [Array.toList_modify, hes', modify_mid]
        exact f1.get_mid ⟨f2.1, f2.2.1, e3⟩ f3
      obtain ⟨g1, g2⟩ := hh.remap hb hid hes hT hF' ⟨ks, hks, fun x hx => by
        simp only [List.mem_append, List.mem_cons] at hx
        rcases hx with hx | rfl | hx
        · exact hkp' x (by simp [hx])
        · exact hkp' e (by simp)
        · exact hkp' x (by simp [hx])⟩
      exact ⟨_, H', undef, _, ρ, val_ok h, .inr ⟨hrun, rfl⟩, .lit _, g1, g2⟩
    · cases h
  · cases h

theorem builtinK_delete (ts : List TypeId) (args : List AV) : builtinK E .delete ts args H = match ts, args with | t :: _, [m, x] => deleteK E t m x H | _, _ => .er [77] := by
  unfold builtinK
  rcases ts with _ | ⟨t, _ | ⟨t', ts⟩⟩ <;> rcases args with _ | ⟨x, _ | ⟨y, _ | ⟨z, l⟩⟩⟩ <;> rfl

theorem wr_delete (EO : EnvOK P E) {args : Array Operand} {ts : Array TypeId} (ho : o.op = .call { callee := .builtin .delete, args := args, argTypes := ts })
    (h : opK E s (.call { callee := .builtin .delete, args := args, argTypes := ts }) H = .ok r) : Wr P E s o H r := by
  unfold opK at h
  dsimp only at h
  replace h := evL_ok h; obtain ⟨vs, hvs, h⟩ := h
  rw [builtinK_delete] at h
  have key : ∃ t ts' m x, ts.toList = t :: ts' ∧ vs = [m, x] ∧ deleteK E t m x H = .ok r := by
    split at h
    · rename_i e; exact ⟨_, _, _, _, e, rfl, h⟩
    · cases h
  clear h
  obtain ⟨t, ts', m, kv, hts, rfl, h⟩ := key
  obtain ⟨ox, oy, hl, hx, hy⟩ := f2_two hvs
  have hargs : args = #[ox, oy] := array_of_toList hl
  have hts0 : ts[0]? = some t := by rw [← Array.getElem?_toList, hts]; rfl
  have hop : ∀ z ∈ args.toList, z ∈ o.op.operands.toList := by
    intro z hz
    simp only [ho, Op.operands, Call.operands, Array.toList_append, List.mem_append]; exact .inr hz
  unfold deleteK at h
  split at h
  · rename_i id
    replace h := mapOf_ok h; obtain ⟨i, kt, et, c, l, hi, hd, h, hl'⟩ := h
    obtain ⟨_, e0, hid⟩ := hl'.resolve_left (by rintro ⟨e, _⟩; cases e)
    cases e0
    replace h := keyK_ok h; obtain ⟨ks, key, hks, hkp, h, hkey⟩ := h
    have hu : P.underlying t = some (.map kt et) := by have := (EO.tt _ _ hi).und; rwa [hd] at this
    have KO := (EO.ky _ _ hks).ko
    intro w0 ρ w a hh ct
    have e2 := hkey ρ _ (ct.ev hy (hop _ (by simp [hargs])))
    obtain ⟨b, sh, N, es, hb, e1, hes, hF, ks', hks', hkp'⟩ := hh.map_at hid (ct.ev hx (hop _ (by simp [hargs])))
    rw [hks] at hks'; cases hks'
    have hf := KO.find key es.toList w hkp (er_keys hF hkp')
    have hexec : ∀ w', (Builtin.delete_ ts o.type #[.map (some b), key]).run P w = .ok (.tuple #[]) w' → (execOp a.eval o).run P w = .ok (.value (.tuple #[])) w' := by
      intro w' hw'
      rw [run_builtin ho]
      have : args.map a.eval = #[.map (some b), key] := by rw [hargs]; simp [e1, e2]
      rw [this]
      simp only [builtin, Sem.run_bind, hw', Result.andThen_ok, Sem.run_pure]
    rcases dropL_ok h with ⟨pre, e, post, rfl, h1, h2, h3⟩ | ⟨h1, h2⟩
    · replace h3 := updK_ok h3; obtain ⟨H', hT, h3⟩ := h3
      obtain ⟨pre', e', post', hes', f1, f2, f3⟩ := hF.split
      have hmiss := er_miss f1 (fun x hx => hkp' x (by simp [hx])) h1
      have hek : e'.key = key := by rw [f2.1]; exact eqKV_eq h2
      have hv := findV_hit pre' e' post' 0 hmiss hek
      rw [← hes'] at hv
      have hrun : (Builtin.delete_ ts o.type #[.map (some b), key]).run P w = .ok (.tuple #[]) { w with heap := w.heap.setIfInBounds b (.map (es.eraseIdxIfInBounds pre'.length) c) } := by
        unfold Builtin.delete_
        simp [hts0, run_underlying hu, Sem.run_bind, getObj, setObj, Sem.run, hes, KO.check _ _ _ hkp, hf, hv, Result.andThen]
      have hlist : (es.eraseIdxIfInBounds pre'.length).toList = pre' ++ post' := by
        rw [Array.toList_eraseIdxIfInBounds, hes', List.eraseIdx_append_of_length_le (Nat.le_refl _)]; simp
      obtain ⟨g1, g2⟩ := hh.remap hb hid hes hT (by rw [hlist]; exact f1.append f3) ⟨ks, hks, fun x hx => by
        simp only [List.mem_append] at hx
        rcases hx with hx | hx <;> exact hkp' x (by simp [hx])⟩
      exact ⟨_, H', _, _, ρ, val_ok h3, .inl (hexec _ hrun), .lit _, g1, g2⟩
    · replace h2 := updK_ok h2; obtain ⟨H', hT, h2⟩ := h2
      have hv := findV_miss es.toList 0 (er_miss hF hkp' h1)
      have hrun : (Builtin.delete_ ts o.type #[.map (some b), key]).run P w = .ok (.tuple #[]) { w with heap := w.heap.setIfInBounds b (.map es c) } := by
        unfold Builtin.delete_
        simp [hts0, run_underlying hu, Sem.run_bind, getObj, setObj, Sem.run, hes, KO.check _ _ _ hkp, hf, hv, Result.andThen]
      obtain ⟨g1, g2⟩ := hh.remap hb hid hes hT hF ⟨ks, hks, hkp'⟩
      exact ⟨_, H', _, _, ρ, val_ok h2, .inl (hexec _ hrun), .lit _, g1, g2⟩
  · cases h
end
end Go.Proofs.YtclljjfkaljdnaaGreatDoor
