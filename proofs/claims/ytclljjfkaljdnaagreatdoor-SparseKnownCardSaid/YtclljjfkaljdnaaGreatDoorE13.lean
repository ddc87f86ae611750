/- The evaluator's operations that change memory: append, copy, clear. No program in sight. -/
import Derived.Test.YtclljjfkaljdnaaGreatDoorE12
import Derived.Deep.AppendSrc
import Derived.Laws.AppendOwn
namespace Go.Proofs.YtclljjfkaljdnaaGreatDoor
open Go.RowKit

section
variable {P : Program} {E : Env} {s : Tr AV} {o : Oper} {H : AH} {r : ARes} {w0 w : World} {ρ : Ren}

theorem rlL_one {l : List AV} {vs : List Value} (h : RlL ρ l vs) (hc : allCell l = true) : ∀ u ∈ vs, u.oneCell' = true := by
  intro u hu
  obtain ⟨n, hn⟩ := List.getElem?_of_mem hu
  have hlen := h.length
  obtain ⟨hlt, _⟩ := List.getElem?_eq_some_iff.1 hn
  obtain ⟨v', h1, h2⟩ := h.get (List.getElem?_eq_getElem (by omega : n < l.length))
  rw [hn] at h1; cases h1
  exact isCell_one h2 (allCell_spec hc _ (List.getElem_mem _))

/-- The cells of a slice that is read. -/
theorem sliceCells_ok {β : Type} {es : Nat} {x : AV} {k : Nat → List AV → R β} {q : β} (h : sliceCells es x H k = .ok q) :
    ∃ n l, k n l = .ok q ∧ l.length = n * es ∧ ∀ w0 ρ w xv t e, HR E w0 ρ H w → Rl ρ x xv → P.underlying t = some (.slice e) → allCell l = true → ∃ vs, Src P es t xv n vs w ∧ RlL ρ l vs := by
  unfold sliceCells at h
  split at h
  · rename_i id off es' n cap ex
    replace h := objK_ok h; obtain ⟨ob, hob, h⟩ := h
    split at h
    · rename_i m cs ro
      replace h := boolC_er h; obtain ⟨h1, h⟩ := h
      replace h := boolC_er h; obtain ⟨h2, h⟩ := h
      replace h := readK_spec h; obtain ⟨l, h3, h4, h⟩ := h
      have h2' : off + n * es ≤ m := by simpa [Nat.ble_eq, add_eq, mul_eq] using h2
      refine ⟨n, l, h, h3, fun w0 ρ w xv t e hr hx hu hall => ?_⟩
      obtain ⟨b, sh, N, c, hb, k1, k2, k3, k4, k5, rfl⟩ := hx.inv_sl
      obtain ⟨vs, g1, g2, g3⟩ := hr.read hb hob h2' h3 h4
      exact ⟨vs, Src.ofSlice w hu _ n c vs g1 g3 (rlL_one g2 hall), g2⟩
    · cases h
  · rename_i c
    refine ⟨0, [], h, by simp, fun w0 ρ w xv t e hr hx hu _ => ?_⟩
    rw [hx.inv_lit]
    exact ⟨[], Src.ofNil w hu _, .nil⟩
  · refine ⟨0, [], h, by simp, fun w0 ρ w xv t e hr hx hu _ => ?_⟩
    obtain ⟨a, c, rfl⟩ := hx.inv_esl
    exact ⟨[], Src.ofSlice w hu a 0 c [] (by simp) (by simp) (by simp), .nil⟩
  · cases h

/-- An old number goes, a new one stands for its block. -/
theorem HR.move (h : HR E w0 ρ H w) {H1 H2 : AH} {w' : World} {id b s' sh N : Nat} {ob o' : AO} (hi : ρ id = some (b, sh, N)) (ho : H.t.get id = some ob) (hro : ob.isRo = false) (_hro' : o'.isRo = false) (hg : Turned H id none H1) (ha : Added H1 o' H2)
    (hor : OR E (ρ.add H.next (b, s', N)) o' s' N w'.heap[b]?) (hsz : w'.heap.size = w.heap.size) (hbk : ∀ k, k ≠ b → w'.heap[k]? = w.heap[k]?) (h2 : w'.os = w.os) (h3 : w'.tape = w.tape) (h4 : w'.output = w.output) :
    HR E w0 (ρ.add H.next (b, s', N)) H2 w' ∧ Later ρ H (ρ.add H.next (b, s', N)) H2 := by
  have hB := h.own id b sh N ob hi ho hro
  have hf := h.fresh
  have hx := Ren.add_ext (p := (b, s', N)) hf
  have hn1 : H1.next = H.next := hg.1
  have hn2 : H2.next = H.next + 1 := by rw [ha.1, hn1]
  have cases : ∀ j p, (ρ.add H.next (b, s', N)) j = some p → (j = H.next ∧ p = (b, s', N)) ∨ (j ≠ H.next ∧ ρ j = some p) := by
    intro j p hp
    unfold Ren.add at hp
    split at hp
    · rename_i e; cases hp; exact .inl ⟨e, rfl⟩
    · rename_i e; exact .inr ⟨e, hp⟩
  have get2 : ∀ j, j ≠ H.next → ∀ o2, H2.t.get j = some o2 → j ≠ id ∧ H.t.get j = some o2 := by
    intro j hj o2 hg2
    rw [ha.2, hn1, if_neg hj, hg.2] at hg2
    split at hg2
    · cases hg2
    · rename_i e; exact ⟨e, hg2⟩
  have get1 : ∀ o2, H2.t.get H.next = some o2 → o2 = o' := by
    intro o2 hg2
    rw [ha.2, hn1, if_pos rfl] at hg2
    exact (Option.some.inj hg2).symm
  have blkne : ∀ j b2 s2 N2 o2, j ≠ H.next → ρ j = some (b2, s2, N2) → H2.t.get j = some o2 → b2 ≠ b := by
    intro j b2 s2 N2 o2 hj hp hg2 e
    obtain ⟨e1, e2⟩ := get2 j hj o2 hg2
    subst e
    exact e1 (h.inj j id b2 s2 N2 sh N _ _ hp hi e2 ho hro)
  refine ⟨⟨?_, ?_, ?_, ?_, ?_, ?_, ?_, fun j hj => by
    rw [ha.2, hn1, if_neg (by omega), hg.2]; split; rfl; exact h.fr j (by omega)⟩, hx, fun j hj hn => ⟨?_, ?_⟩, by omega⟩
  · intro j p hp
    rcases cases j p hp with ⟨rfl, _⟩ | ⟨_, hp⟩
    · omega
    · have := h.lt j p hp; omega
  · intro j b2 s2 N2 o2 hp hg2
    rcases cases j _ hp with ⟨rfl, e⟩ | ⟨hj, hp⟩
    · cases e
      rw [get1 _ hg2]; exact hor
    · rw [hbk _ (blkne j _ _ _ _ hj hp hg2)]
      exact (h.obj j b2 s2 N2 o2 hp (get2 j hj o2 hg2).2).mono hx
  · intro i j b2 s1 N1 s2 N2 o1 o2 h5 h6 h7 h8 h9
    rcases cases i _ h5 with ⟨rfl, e⟩ | ⟨hii, h5'⟩
    · cases e
      rcases cases j _ h6 with ⟨rfl, _⟩ | ⟨hj, h6'⟩
      · rfl
      · exact absurd rfl (blkne j _ _ _ _ hj h6' h8)
    · rcases cases j _ h6 with ⟨rfl, e⟩ | ⟨hj, h6'⟩
      · cases e; exact absurd rfl (blkne i _ _ _ _ hii h5' h7)
      · exact h.inj i j b2 s1 N1 s2 N2 _ _ h5' h6' (get2 i hii _ h7).2 (get2 j hj _ h8).2 h9
  · intro j b2 s2 N2 o2 hp hg2 hr2
    rcases cases j _ hp with ⟨rfl, e⟩ | ⟨hj, hp⟩
    · cases e; exact hB
    · exact h.own j b2 s2 N2 o2 hp (get2 j hj o2 hg2).2 hr2
  · intro j b2 s2 N2 hp
    rw [hsz]
    rcases cases j _ hp with ⟨rfl, e⟩ | ⟨hj, hp⟩
    · cases e; exact h.blk id b sh N hi
    · exact h.blk j b2 s2 N2 hp
  · intro g i hgl
    obtain ⟨N', hN⟩ := h.glob g i hgl
    exact ⟨N', hx _ _ hN⟩
  · exact ⟨h2.trans h.chg.os, h3.trans h.chg.tape, h4.trans h.chg.output, by rw [hsz]; exact h.chg.size, fun k hk hs => by
      rw [hbk k (by omega)]; exact h.chg.block k hk hs⟩
  · unfold Ren.add; rw [if_neg (Nat.ne_of_lt hj)]; exact hn
  · rw [ha.2, hn1, if_neg (Nat.ne_of_lt hj), hg.2, if_neg]
    rintro rfl
    rw [hi] at hn; cases hn

/-- The trie of a row that has grown: the old cells, then the new ones. -/
def Grown (cs cs' : Tr AV) (off k : Nat) (new : List AV) : Prop := ∀ (i : Nat) av, i < k + new.length → cs'.get i = some av → (i < k ∧ cs.get (off + i) = some av) ∨ (k ≤ i ∧ new[i - k]? = some av)
theorem grown_in {cs cs' : Tr AV} {k : Nat} {new : List AV} (h : ∀ j, cs'.get j = if k ≤ j ∧ j < k + new.length then new[j - k]? else cs.get j) : Grown cs cs' 0 k new := by
  intro i av hi ha
  rw [h] at ha
  by_cases e : k ≤ i
  · rw [if_pos ⟨e, hi⟩] at ha; exact .inr ⟨e, ha⟩
  · rw [if_neg (by omega)] at ha; exact .inl ⟨by omega, by rw [Nat.zero_add]; exact ha⟩
theorem grown_new {cs t1 cs' : Tr AV} {off k : Nat} {old new : List AV} (hl : old.length = k) (ho : ∀ i, i < k → ∃ x, old[i]? = some x ∧ cs.get (off + i) = some x)
    (h1 : ∀ j, t1.get j = if 0 ≤ j ∧ j < 0 + old.length then old[j - 0]? else (Tr.e : Tr AV).get j) (h2 : ∀ j, cs'.get j = if k ≤ j ∧ j < k + new.length then new[j - k]? else t1.get j) : Grown cs cs' off k new := by
  intro i av hi ha
  rw [h2] at ha
  by_cases e : k ≤ i
  · rw [if_pos ⟨e, hi⟩] at ha; exact .inr ⟨e, ha⟩
  · rw [if_neg (by omega), h1, if_pos (by omega), Nat.sub_zero] at ha
    obtain ⟨x, h3, h4⟩ := ho i (by omega)
    rw [h3] at ha; cases ha
    exact .inl ⟨by omega, h4⟩

/-- 'append' where there is room. -/
theorem run_room {t ty e : TypeId} {j : TI} (ht : P.underlying t = some (.slice e)) (T : TIOK P e j) {a : Addr} {len c n : Nat} {x : Value} {news : List Value} {w w' : World} (hs : Src P j.size t x n news w) (hroom : len + n ≤ c)
    (hst : (storeCells (a.add (len * j.size)) news).run P w = .ok () w') : (Builtin.append_ #[t, t] ty #[.slice (some a) len c, x]).run P w = .ok (.slice (some a) (len + n) c) w' := by
  unfold Builtin.append_
  have hz : ((TypeDesc.slice e) matches .int _) = false := rfl
  simp [Sem.run_bind, run_underlying ht, T.run_size, hs.len, hroom, hs.cells, hst]

theorem builtinK_append (ts : List TypeId) (args : List AV) : builtinK E .append ts args H = match ts, args with | [t, t'], [s, x] => boolC (.er [76]) (appendK E t s x H) (Nat.beq t t') | _, _ => .er [77] := by
  unfold builtinK
  rcases ts with _ | ⟨t, _ | ⟨t', _ | ⟨t'', ts⟩⟩⟩ <;> rcases args with _ | ⟨x, _ | ⟨y, _ | ⟨z, l⟩⟩⟩ <;> rfl

theorem TIOK.type {e : TypeId} {j : TI} (T : TIOK P e j) : ∃ x zv, P.info? e = some x ∧ x.size = j.size ∧ x.bytes = j.bytes ∧ x.zero = some zv ∧ zv.cells.size = j.size := by
  obtain ⟨x, zv, h1, h2, h3, h4, h5, _⟩ := T.info
  refine ⟨x, zv, h1, h2, h3, h4, ?_⟩
  have := T.len; rw [h5] at this; simpa using this

theorem zeroCells_size (z : Array Value) (n : Nat) : (Builtin.zeroCells z n).size = n * z.size := by simp [Builtin.zeroCells]

theorem wr_append (EO : EnvOK P E) {args : Array Operand} {ts : Array TypeId} (ho : o.op = .call { callee := .builtin .append, args := args, argTypes := ts })
    (h : opK E s (.call { callee := .builtin .append, args := args, argTypes := ts }) H = .ok r) : Wr P E s o H r := by
  unfold opK at h
  dsimp only at h
  replace h := evL_ok h; obtain ⟨vs, hvs, h⟩ := h
  rw [builtinK_append] at h
  have key : ∃ t sv x, ts.toList = [t, t] ∧ vs = [sv, x] ∧ appendK E t sv x H = .ok r := by
    split at h
    · rename_i t t' sv x e
      replace h := boolC_er h; obtain ⟨h1, h⟩ := h
      have h1' : t = t' := by simpa using h1
      subst h1'
      exact ⟨_, _, _, e, rfl, h⟩
    · cases h
  clear h
  obtain ⟨t, sv, x, hts, rfl, h⟩ := key
  obtain ⟨ox, oy, hl, hx, hy⟩ := f2_two hvs
  have hargs : args = #[ox, oy] := array_of_toList hl
  have htsa : ts = #[t, t] := array_of_toList hts
  have hop : ∀ z ∈ args.toList, z ∈ o.op.operands.toList := by
    intro z hz
    simp only [ho, Op.operands, Call.operands, Array.toList_append, List.mem_append]; exact .inr hz
  have hexec : ∀ (a : Act) (w w' : World) v, (Builtin.append_ #[t, t] o.type #[a.eval ox, a.eval oy]).run P w = .ok v w' → (execOp a.eval o).run P w = .ok (.value v) w' := by
    intro a w w' v hw'
    rw [run_builtin ho, htsa]
    have : args.map a.eval = #[a.eval ox, a.eval oy] := by rw [hargs]; simp
    rw [this]
    simp only [builtin, Sem.run_bind, hw', Result.andThen_ok, Sem.run_pure]
  unfold appendK at h
  replace h := elemOf_ok h; obtain ⟨i, e, j, hi, hd, hj, h⟩ := h
  have T := EO.tt _ _ hj
  have hu : P.underlying t = some (.slice e) := by have := (EO.tt _ _ hi).und; rwa [hd] at this
  obtain ⟨ti, zv, hti, hts1, hts2, htz, hzs⟩ := T.type
  replace h := sliceCells_ok (P := P) (E := E) h; obtain ⟨n, new, h, hnl, hsrc⟩ := h
  -- where it grows
  have grow : ∀ (w0 : World) (ρ : Ren) (w : World) (a : Act), HR E w0 ρ H w → ∀ (base : Option Addr) (len c : Nat) (olds news : List Value), a.eval ox = .slice base len c → c < len + n → len + n ≤ 9223372036854775807 → (len + n) * j.bytes ≤ 140737488355328 →
      (Builtin.firstCells j.size len (.slice base len c)).run P w.drew = .ok olds.toArray w.drew → olds.length = len * j.size → Src P j.size t (a.eval oy) n news w →
      ∃ x N nc, (execOp a.eval o).run P w = .ok (.value (.slice (some ⟨w.heap.size, 0, none⟩) (len + n) nc)) (w.drew.alloc (.cells x e)) ∧ x.size = N ∧ N = nc * j.size ∧ len + n ≤ nc ∧ nc ≤ maxLen ∧
        ∀ (i : Nat) v, (olds ++ news)[i]? = some v → x[i]? = some v := by
    intro w0 ρ w a hr base len c olds news e1 hg h63 h48 hold hol hs
    have hnc := nextslicecap_le (need := len + n) (old := c) hg
    have hfit : Builtin.nextslicecap (len + n) c * ti.bytes ≤ 281474976710656 := by
      rw [hts2]
      have h1 : Builtin.nextslicecap (len + n) c * j.bytes ≤ 2 * (len + n) * j.bytes := Nat.mul_le_mul_right _ hnc
      have h2 : 2 * (len + n) * j.bytes = 2 * ((len + n) * j.bytes) := Nat.mul_assoc _ _ _
      omega
    have hrun := run_append_grow_src (P := P) w t t o.type e ti zv hu hti htz base len c olds (by rw [hts1]; exact hold) (a.eval oy) n news (by rw [hts1]; exact hs) hg (by omega) hfit
    have hge := grownCap_ge w (len + n) c e
    have hle := grownCap_le_maxLen w (len + n) c e (by unfold maxLen; omega)
    refine ⟨_, _, _, hexec a w _ _ (by rw [e1]; exact hrun), rfl, ?_, hge, hle, fun i v hv => ?_⟩
    · rw [Array.size_append, zeroCells_size, hzs, List.size_toArray, List.length_append, hol, hs.newsLen, ← Nat.add_mul, ← Nat.add_mul]
      congr 1; omega
    · have hlt := (List.getElem?_eq_some_iff.1 hv).1
      rw [Array.getElem?_append_left (by simpa using hlt)]
      simpa using hv
  split at h
  · -- onto nothing
    cases hn : n with
    | zero =>
      rw [hn] at h
      have hnew : new = [] := by
        rw [hn, Nat.zero_mul] at hnl
        exact List.eq_nil_of_length_eq_zero hnl
      intro w0 ρ w a hh ct
      have e1 := (ct.ev hx (hop _ (by simp [hargs]))).inv_lit
      obtain ⟨news, hs, hrel⟩ := hsrc w0 ρ w _ t e hh (ct.ev hy (hop _ (by simp [hargs]))) hu (by rw [hnew]; rfl)
      refine ⟨_, H, _, w, ρ, val_ok h, .inl (hexec a w w (.slice none 0 0) ?_), .lit _, hh, Later.refl _ _⟩
      have hc0 := hs.cells
      rw [hn] at hc0
      have hl0 := hs.len
      rw [hn] at hl0
      unfold Builtin.append_
      simp [e1, Sem.run_bind, run_underlying hu, T.run_size, hl0, hc0]
    | succ n' =>
      rw [hn, natC_succ] at h
      rw [← hn] at h
      replace h := boolC_er h; obtain ⟨h63, h⟩ := h
      replace h := boolC_er h; obtain ⟨h48, h⟩ := h
      replace h := boolC_er h; obtain ⟨hall, h⟩ := h
      replace h := writeK_ok h; obtain ⟨t', ht', h⟩ := h
      replace h := newK_ok h; obtain ⟨H', hA, h⟩ := h
      have h63' : n ≤ 9223372036854775807 := by simpa [Nat.ble_eq] using h63
      have h48' : n * j.bytes ≤ 140737488355328 := by simpa [Nat.ble_eq, mul_eq] using h48
      intro w0 ρ w a hh ct
      have e1 := (ct.ev hx (hop _ (by simp [hargs]))).inv_lit
      obtain ⟨news, hs, hrel⟩ := hsrc w0 ρ w _ t e hh (ct.ev hy (hop _ (by simp [hargs]))) hu hall
      obtain ⟨xr, N, nc, g1, g2, g3, g4, g5, g6⟩ := grow w0 ρ w a hh none 0 0 [] news e1 (by omega) (by omega) (by simpa using h48') (by simp [Builtin.firstCells]) (by simp) hs
      rw [Nat.zero_add] at g1 g4
      have hor : OR E (ρ.add H.next (w.heap.size, 0, N)) (.cells (n * j.size) t' false) 0 N (some (.cells xr e)) := by
        refine ⟨xr, e, (0, 0), rfl, g2, ?_, fun _ => rfl, fun i av hi ha => ?_, fun _ => rfl⟩
        · rw [g3, Nat.zero_add]; exact Nat.mul_le_mul_right _ g4
        · rw [ht', if_pos (by omega), Nat.sub_zero] at ha
          obtain ⟨v, h5, h6⟩ := hrel.get ha
          exact ⟨v, by rw [Nat.zero_add]; exact g6 i v (by simpa using h5), h6.mono (Ren.add_ext hh.fresh)⟩
      obtain ⟨k1, k2⟩ := (hh.drew (w' := w.drew) rfl rfl rfl rfl).alloc (x := .cells xr e) hA hor
      refine ⟨_, H', _, _, _, val_ok h, .inl g1, ?_, k1, k2⟩
      exact .sl (s := 0) (Ren.add_self _ _ _) (fun hx => by cases hx) g4 (Nat.le_refl _) (by rw [g3]; simp) g5
  · rename_i id off es' len cap ex
    replace h := boolC_er h; obtain ⟨hes, h⟩ := h
    have hes' : j.size = es' := by simpa using hes
    subst hes'
    replace h := boolC_er h; obtain ⟨hall, h⟩ := h
    replace h := forceN_ok h
    replace h := boolC_er h; obtain ⟨h63, h⟩ := h
    replace h := boolC_er h; obtain ⟨h48, h⟩ := h
    rw [add_eq] at h h63 h48
    have h63' : len + n ≤ 9223372036854775807 := by simpa [Nat.ble_eq] using h63
    have h48' : (len + n) * j.bytes ≤ 140737488355328 := by simpa [Nat.ble_eq, mul_eq] using h48
    replace h := objK_ok h; obtain ⟨ob, hob, h⟩ := h
    split at h
    · rename_i m cs ro
      -- the old cells, as the machine reads them
      have olds : ∀ (w0 : World) (ρ : Ren) (w : World) b sh N c, HR E w0 ρ H w → ρ id = some (b, sh, N) → len ≤ cap → cap ≤ c → sh + off + c * j.size ≤ N → off + len * j.size ≤ m → ∃ (olds : List Value), olds.length = len * j.size ∧
          (Builtin.firstCells j.size len (.slice (some ⟨b, sh + off, none⟩) len c)).run P w.drew = .ok olds.toArray w.drew ∧
          ∀ (i : Nat) av, i < len * j.size → cs.get (off + i) = some av → ∃ v, olds[i]? = some v ∧ Rl ρ av v := by
        intro w0 ρ w b sh N c hr hb k3 k2 k4 hm
        obtain ⟨cc, ee, fz, q1, q2, q3, q4, q5, _⟩ := hr.obj _ _ _ _ _ hb hob
        have hlc : len * j.size ≤ c * j.size := Nat.mul_le_mul_right _ (by omega)
        have hol : ((cc.toList.drop (sh + off)).take (len * j.size)).length = len * j.size := by
          simp only [List.length_take, List.length_drop, Array.length_toList]; omega
        have hget : ∀ i, i < len * j.size → ((cc.toList.drop (sh + off)).take (len * j.size))[i]? = cc[sh + (off + i)]? := by
          intro i hi
          rw [List.getElem?_take, if_pos hi, List.getElem?_drop, Array.getElem?_toList, Nat.add_assoc]
        refine ⟨_, hol, run_firstCells_some w.drew j.size len ⟨b, sh + off, none⟩ len c _ hol ?_, fun i av hi ha => ?_⟩
        · intro i v hv
          have hi : i < len * j.size := by rw [← hol]; exact (List.getElem?_eq_some_iff.1 hv).1
          rw [hget i hi] at hv
          rw [addr_of]
          have : (w.drew).heap[b]? = some (.cells cc ee fz) := q1
          exact cell_of_blk this (by rw [← hv]; congr 1; omega)
        · obtain ⟨v, h5, h6⟩ := q5 (off + i) av (by omega) ha
          exact ⟨v, by rw [hget i hi]; exact h5, h6⟩
      have hsplit : (len + n) * j.size = len * j.size + n * j.size := Nat.add_mul _ _ _
      -- the cells of a grown row
      have row : ∀ {ρ ρ' : Ren} {cs' : Tr AV} {olds news : List Value} {xr : Array Value} {sh : Nat}, Ext ρ ρ' → Grown cs cs' off (len * j.size) new → olds.length = len * j.size → RlL ρ new news →
          (∀ (i : Nat) av, i < len * j.size → cs.get (off + i) = some av → ∃ v, olds[i]? = some v ∧ Rl ρ av v) → (∀ (i : Nat) v, (olds ++ news)[i]? = some v → xr[sh + i]? = some v) →
          ∀ (i : Nat) av, i < (len + n) * j.size → cs'.get i = some av → ∃ v, xr[sh + i]? = some v ∧ Rl ρ' av v := by
        intro ρ ρ' cs' olds news xr sh hx hG hol hrel hold hxr i av hi ha
        rcases hG i av (by rw [hnl]; omega) ha with ⟨h5, h6⟩ | ⟨h5, h6⟩
        · obtain ⟨v, h7, h8⟩ := hold i av h5 h6
          exact ⟨v, hxr i v (by rw [List.getElem?_append_left (by omega)]; exact h7), h8.mono hx⟩
        · obtain ⟨v, h7, h8⟩ := hrel.get h6
          exact ⟨v, hxr i v (by rw [List.getElem?_append_right (by omega), hol]; exact h7), h8.mono hx⟩
      cases hroom : Nat.ble (len + n) cap with
      | true =>
        rw [hroom] at h
        replace h := boolC_re h; obtain ⟨hro, h⟩ := h
        subst hro
        replace h := boolC_er h; obtain ⟨hm, h⟩ := h
        replace h := writeK_ok h; obtain ⟨cs', hcs', h⟩ := h
        replace h := updK_ok h; obtain ⟨H', hT, h⟩ := h
        have hroom' : len + n ≤ cap := by simpa [Nat.ble_eq] using hroom
        have hm' : off + (len + n) * j.size ≤ m := by simpa [Nat.ble_eq, add_eq, mul_eq] using hm
        intro w0 ρ w a hh ct
        obtain ⟨b, sh, N, c, hb, k1, k2, k3, k4, k5, e1⟩ := (ct.ev hx (hop _ (by simp [hargs]))).inv_sl
        obtain ⟨news, hs, hrel⟩ := hsrc w0 ρ w _ t e hh (ct.ev hy (hop _ (by simp [hargs]))) hu hall
        obtain ⟨w', g1, g2, g3⟩ := hh.write (P := P) (off := off + len * j.size) hb hob (by rw [hnl]; omega) hrel (rlL_one hrel hall) hcs' hT
        refine ⟨_, H', _, w', ρ, val_ok h, .inl (hexec a w w' (.slice (some ⟨b, sh + off, none⟩) (len + n) c) ?_), .sl hb k1 k2 hroom' k4 k5, g2, g3⟩
        rw [e1]
        exact run_room hu T hs (by omega) (by rw [addr_of, Nat.add_assoc]; exact g1)
      | false =>
        rw [hroom] at h
        have hroom' : cap < len + n := by
          rcases Nat.lt_or_ge cap (len + n) with h | h
          · exact h
          · rw [Nat.ble_eq_true_of_le h] at hroom; cases hroom
        cases hex : ex with
        | true =>
          rw [hex] at h
          replace h := boolC_er h; obtain ⟨hm, h⟩ := h
          replace h := readK_spec h; obtain ⟨old, ho1, ho2, h⟩ := h
          replace h := writeK_ok h; obtain ⟨t1, ht1, h⟩ := h
          replace h := writeK_ok h; obtain ⟨cs', hcs', h⟩ := h
          replace h := newK_ok h; obtain ⟨H', hA, h⟩ := h
          have hm' : off + len * j.size ≤ m := by simpa [Nat.ble_eq, add_eq, mul_eq] using hm
          have hG : Grown cs cs' off (len * j.size) new := grown_new ho1 ho2 ht1 hcs'
          intro w0 ρ w a hh ct
          obtain ⟨b, sh, N, c, hb, k1, k2, k3, k4, k5, e1⟩ := (ct.ev hx (hop _ (by simp [hargs]))).inv_sl
          obtain ⟨news, hs, hrel⟩ := hsrc w0 ρ w _ t e hh (ct.ev hy (hop _ (by simp [hargs]))) hu hall
          have hcc := k1 hex
          obtain ⟨ol, o1, o2, o3⟩ := olds w0 ρ w b sh N c hh hb k3 k2 k4 hm'
          obtain ⟨xr, N', nc, g1, g2, g3, g4, g5, g6⟩ := grow w0 ρ w a hh _ len c ol news e1 (by omega) h63' h48' o2 o1 hs
          have hor : OR E (ρ.add H.next (w.heap.size, 0, N')) (.cells ((len + n) * j.size) cs' false) 0 N' (some (.cells xr e)) := by
            refine ⟨xr, e, (0, 0), rfl, g2, ?_, fun _ => rfl, ?_, fun _ => rfl⟩
            · rw [g3, Nat.zero_add]; exact Nat.mul_le_mul_right _ g4
            · exact row (sh := 0) (Ren.add_ext hh.fresh) hG o1 hrel o3 (fun i v hv => by rw [Nat.zero_add]; exact g6 i v hv)
          obtain ⟨p1, p2⟩ := (hh.drew (w' := w.drew) rfl rfl rfl rfl).alloc (x := .cells xr e) hA hor
          refine ⟨_, H', _, _, _, val_ok h, .inl g1, ?_, p1, p2⟩
          exact .sl (s := 0) (Ren.add_self _ _ _) (fun hx => by cases hx) g4 (Nat.le_refl _) (by rw [g3]; simp) g5
        | false =>
          rw [hex] at h
          replace h := boolC_re h; obtain ⟨hro, h⟩ := h
          subst hro
          replace h := boolC_er h; obtain ⟨hm, h⟩ := h
          have hm' : off + len * j.size ≤ m := by simpa [Nat.ble_eq, add_eq, mul_eq] using hm
          replace h := boolC_er h; obtain ⟨hone1, h⟩ := h
          have hh2 : ∃ cs' H1 H', Grown cs cs' off (len * j.size) new ∧ Turned H id none H1 ∧ Added H1 (.cells ((len + n) * j.size) cs' false) H' ∧ r = .val (.sl H.next 0 j.size (len + n) (len + n) false) H' := by
            cases hoff : off with
            | zero =>
              rw [hoff] at h
              replace h := writeK_ok h; obtain ⟨cs', hcs', h⟩ := h
              replace h := updK_ok h; obtain ⟨H1, hT, h⟩ := h
              replace h := newK_ok h; obtain ⟨H', hA, h⟩ := h
              rw [hT.1] at h
              exact ⟨cs', H1, H', grown_in hcs', hT, hA, val_ok h⟩
            | succ off' =>
              rw [hoff, natC_succ] at h
              replace h := readK_spec h; obtain ⟨old, ho1, ho2, h⟩ := h
              replace h := writeK_ok h; obtain ⟨t1, ht1, h⟩ := h
              replace h := writeK_ok h; obtain ⟨cs', hcs', h⟩ := h
              replace h := updK_ok h; obtain ⟨H1, hT, h⟩ := h
              replace h := newK_ok h; obtain ⟨H', hA, h⟩ := h
              rw [hT.1] at h
              exact ⟨cs', H1, H', grown_new ho1 ho2 ht1 hcs', hT, hA, val_ok h⟩
          obtain ⟨cs', H1, H', hG, hT, hA, hr⟩ := hh2
          intro w0 ρ w a hh ct
          obtain ⟨b, sh, N, c, hb, k1, k2, k3, k4, k5, e1⟩ := (ct.ev hx (hop _ (by simp [hargs]))).inv_sl
          obtain ⟨news, hs, hrel⟩ := hsrc w0 ρ w _ t e hh (ct.ev hy (hop _ (by simp [hargs]))) hu hall
          obtain ⟨ol, o1, o2, o3⟩ := olds w0 ρ w b sh N c hh hb k3 k2 k4 hm'
          by_cases hc : len + n ≤ c
          · -- the machine has room
            obtain ⟨cc, ee, fz, q1, q2, q3, q4, q5, _⟩ := hh.obj _ _ _ _ _ hb hob
            rw [q4 rfl] at q1
            have hone := rlL_one hrel hall
            have hnv := hrel.length
            have hlc : (len + n) * j.size ≤ c * j.size := Nat.mul_le_mul_right _ hc
            have hcl : cc.toList.length = cc.size := Array.length_toList
            have hrun := run_storeCells_at (P := P) b (sh + off + len * j.size) ee news 0 cc w q1 (by omega) hone
            simp only [Nat.add_zero] at hrun
            have hrow : ∀ (i : Nat) v, (ol ++ news)[i]? = some v → ((cc.toList.take (sh + off + len * j.size) ++ news ++ cc.toList.drop (sh + off + len * j.size + news.length)).toArray)[sh + off + i]? = some v := by
              intro i v hv
              rw [List.getElem?_toArray]
              by_cases hi : i < len * j.size
              · rw [List.getElem?_append_left (by omega)] at hv
                rw [List.getElem?_append_left (by simp only [List.length_append, List.length_take]; omega), List.getElem?_append_left (by simp only [List.length_take]; omega), List.getElem?_take, if_pos (by omega)]
                have := run_firstCells_some (P := P) w.drew j.size len ⟨b, sh + off, none⟩ len c ((cc.toList.drop (sh + off)).take (len * j.size)) (by simp only [List.length_take, List.length_drop]; omega) (fun i v hv => by
                  have hi : i < len * j.size := by have := (List.getElem?_eq_some_iff.1 hv).1; simp only [List.length_take] at this; omega
                  rw [List.getElem?_take, if_pos hi, List.getElem?_drop, Array.getElem?_toList] at hv
                  rw [addr_of]
                  exact cell_of_blk (w := w.drew) (show w.drew.heap[b]? = _ from q1) hv)
                rw [o2] at this
                have e9 : ol = (cc.toList.drop (sh + off)).take (len * j.size) := by
                  have := congrArg (fun r => match r with | Result.ok a _ => a.toList | _ => []) this
                  simpa using this
                rw [e9, List.getElem?_take, if_pos hi, List.getElem?_drop] at hv
                exact hv
              · rw [List.getElem?_append_right (by omega), o1] at hv
                have hlt := (List.getElem?_eq_some_iff.1 hv).1
                rw [List.getElem?_append_left (by simp only [List.length_append, List.length_take]; omega), List.getElem?_append_right (by simp only [List.length_take]; omega), List.length_take, Nat.min_eq_left (by omega)]
                rw [← hv]; congr 1; omega
            have hor : OR E (ρ.add H.next (b, sh + off, N)) (.cells ((len + n) * j.size) cs' false) (sh + off) N (w.setRow b (cc.toList.take (sh + off + len * j.size) ++ news ++ cc.toList.drop (sh + off + len * j.size + news.length)).toArray).heap[b]? := by
              rw [setRow_heap w b cc _ ee (0, 0) q1]
              refine ⟨_, ee, (0, 0), rfl, ?_, by omega, fun _ => rfl, ?_, fun h1 => by
                have h2 : Nat.ble 2 ((len + n) * j.size) = true := hone1
                rw [h1] at h2; cases h2⟩
              · simp only [List.size_toArray, List.length_append, List.length_take, List.length_drop]; omega
              · exact row (Ren.add_ext hh.fresh) hG o1 hrel o3 hrow
            obtain ⟨p1, p2⟩ := hh.move hb hob rfl rfl hT hA hor (by simp [World.setRow]) (fun k hk => setRow_other _ _ _ _ hk) rfl rfl rfl
            refine ⟨_, H', _, _, _, hr, .inl (hexec a w _ (.slice (some ⟨b, sh + off, none⟩) (len + n) c) ?_), ?_, p1, p2⟩
            · rw [e1]
              exact run_room hu T hs hc (by rw [addr_of]; exact hrun)
            · exact .sl (s := sh + off) (Ren.add_self _ _ _) (fun hx => by cases hx) hc (Nat.le_refl _) (by omega) k5
          · obtain ⟨xr, N', nc, g1, g2, g3, g4, g5, g6⟩ := grow w0 ρ w a hh _ len c ol news e1 (by omega) h63' h48' o2 o1 hs
            obtain ⟨m1, m2⟩ := hh.gone hb hT
            have hn1 : H1.next = H.next := hT.1
            have hor : OR E (ρ.add H1.next (w.heap.size, 0, N')) (.cells ((len + n) * j.size) cs' false) 0 N' (some (.cells xr e)) := by
              refine ⟨xr, e, (0, 0), rfl, g2, ?_, fun _ => rfl, ?_, fun _ => rfl⟩
              · rw [g3, Nat.zero_add]; exact Nat.mul_le_mul_right _ g4
              · exact row (sh := 0) (Ren.add_ext m1.fresh) hG o1 hrel o3 (fun i v hv => by rw [Nat.zero_add]; exact g6 i v hv)
            obtain ⟨p1, p2⟩ := (m1.drew (w' := w.drew) rfl rfl rfl rfl).alloc (x := .cells xr e) hA hor
            refine ⟨_, H', _, _, _, hr, .inl g1, ?_, p1, m2.trans p2⟩
            rw [hn1]
            exact .sl (s := 0) (Ren.add_self _ _ _) (fun hx => by cases hx) g4 (Nat.le_refl _) (by rw [g3]; simp) g5
    · cases h
  · cases h
end
end Go.Proofs.YtclljjfkaljdnaaGreatDoor
