/- The tables of a program for the evaluator: what they say of it; the start; a closed run. No program in sight. -/
import Derived.Test.YtclljjfkaljdnaaGreatDoorE21
namespace Go.Proofs.YtclljjfkaljdnaaGreatDoor
open Go.RowKit

section
variable {β : Type}
theorem rowK_ok {α γ : Type} {f : α → (Option γ → R β) → R β} {FS : α → γ → Prop} (hf : ∀ a k q, f a k = .ok q → ∃ o, k o = .ok q ∧ ∀ v, o = some v → FS a v) {k : Tr γ → R β} {q : β} {all : List α} :
    ∀ (l : List α) (i : Nat) (t : Tr γ), (∀ j, l[j]? = all[i + j]?) → (∀ j v, t.get j = some v → ∃ a, all[j]? = some a ∧ FS a v) →
      listR (γ := Nat) (β := Tr γ → R β) (fun _ t => k t) (fun a _ ih i t => f a fun v => setK 64 t i v (fun t' => forceN (Nat.succ i) fun i' => ih i' t') (.er [200])) l i t = .ok q →
      ∃ t', k t' = .ok q ∧ ∀ j v, t'.get j = some v → ∃ a, all[j]? = some a ∧ FS a v
  | [], i, t, _, ht, h => ⟨t, h, ht⟩
  | a :: l, i, t, hl, ht, h => by
    rw [listR_cons] at h
    obtain ⟨o, h1, h2⟩ := hf _ _ _ h
    replace h1 := setK_ok h1; obtain ⟨t', ht', h1⟩ := h1
    rw [forceN_eq] at h1
    refine rowK_ok hf l (i + 1) t' (fun j => ?_) (fun j v hv => ?_) h1
    · have := hl (j + 1)
      rw [show i + 1 + j = i + (j + 1) from by omega, ← this]; simp
    · rw [ht'] at hv
      split at hv
      · rename_i e
        subst e
        exact ⟨a, by have := hl 0; simpa using this.symm, h2 v hv⟩
      · exact ht j v hv
theorem rowK_spec {α γ : Type} {f : α → (Option γ → R β) → R β} {FS : α → γ → Prop} (hf : ∀ a k q, f a k = .ok q → ∃ o, k o = .ok q ∧ ∀ v, o = some v → FS a v) {l : List α} {k : Tr γ → R β} {q : β} (h : rowK f l k = .ok q) :
    ∃ t, k t = .ok q ∧ ∀ j v, t.get j = some v → ∃ a, l[j]? = some a ∧ FS a v :=
  rowK_ok hf l 0 .e (fun j => by simp) (fun j v hv => by rw [Tr.get_e] at hv; cases hv) h
theorem pairsK_ok {α γ : Type} {f : α → (γ → R β) → R β} {FS : α → γ → Prop} (hf : ∀ a k q, f a k = .ok q → ∃ v, k v = .ok q ∧ FS a v) {k : Tr γ → R β} {q : β} {all : List (Nat × α)} :
    ∀ (l : List (Nat × α)) (t : Tr γ), (∀ p ∈ l, p ∈ all) → (∀ j v, t.get j = some v → ∃ a, (j, a) ∈ all ∧ FS a v) →
      listR (γ := Tr γ) (β := R β) k (fun p _ ih t => match p with | (i, a) => f a fun v => setK 64 t i (some v) ih (.er [201])) l t = .ok q →
      ∃ t', k t' = .ok q ∧ ∀ j v, t'.get j = some v → ∃ a, (j, a) ∈ all ∧ FS a v
  | [], t, _, ht, h => ⟨t, h, ht⟩
  | (i, a) :: l, t, hl, ht, h => by
    rw [listR_cons] at h
    obtain ⟨v, h1, h2⟩ := hf _ _ _ h
    replace h1 := setK_ok h1; obtain ⟨t', ht', h1⟩ := h1
    refine pairsK_ok hf l t' (fun p hp => hl p (by simp [hp])) (fun j u hu => ?_) h1
    rw [ht'] at hu
    split at hu
    · rename_i e
      subst e
      cases hu
      exact ⟨a, hl _ (by simp), h2⟩
    · exact ht j u hu
theorem pairsK_spec {α γ : Type} {f : α → (γ → R β) → R β} {FS : α → γ → Prop} (hf : ∀ a k q, f a k = .ok q → ∃ v, k v = .ok q ∧ FS a v) {l : List (Nat × α)} {k : Tr γ → R β} {q : β} (h : pairsK f l k = .ok q) :
    ∃ t, k t = .ok q ∧ ∀ j v, t.get j = some v → ∃ a, (j, a) ∈ l ∧ FS a v :=
  pairsK_ok hf l .e (fun p hp => hp) (fun j v hv => by rw [Tr.get_e] at hv; cases hv) h

/-- What the table says of a row of types. -/
structure TF (n : Nat) (ts : List TypeInfo) (x : TypeInfo) (i : TI) : Prop where
  desc : i.desc = x.desc ∧ (∀ s u, x.desc ≠ .named s u) ∨ ∃ s u y, x.desc = .named s u ∧ ts[u]? = some y ∧ i.desc = y.desc
  size : i.size = x.size
  bytes : i.bytes = x.bytes
  zero : ∃ zv, x.zero = some zv ∧ i.zero = zv.cells.toList.map AV.lit ∧ ((isAggD i.desc = true ∧ ∃ cs, zv = .agg cs) ∨ (isAggD i.desc = false ∧ zv.oneCell' = true))
  len : i.zero.length = i.size
  cell : allCell i.zero = true
  flds : ∀ fs, i.desc = .struct fs → ∀ f ∈ fs.toList, f.type < n
theorem descK_ok {ts : List TypeInfo} {d : TypeDesc} {k : TypeDesc → R β} {q : β} (h : descK ts d k = .ok q) : ∃ d', k d' = .ok q ∧ ((d' = d ∧ ∀ s u, d ≠ .named s u) ∨ ∃ s u y, d = .named s u ∧ ts[u]? = some y ∧ d' = y.desc) := by
  unfold descK at h
  split at h
  · rename_i s u
    obtain ⟨y, h1, h2⟩ := nthK_ok h
    exact ⟨_, h2, .inr ⟨s, u, y, rfl, h1, rfl⟩⟩
  · rename_i hn
    exact ⟨d, h, .inl ⟨rfl, fun s u e => hn s u e⟩⟩
theorem fldsB_ok {n : Nat} {d : TypeDesc} (h : fldsB n d = true) : ∀ fs, d = .struct fs → ∀ f ∈ fs.toList, f.type < n := by
  rintro fs rfl
  have h' : listR (γ := Unit) (β := Bool) (fun _ => true) (fun (f : Field) _ ih u => boolC false (ih u) (Nat.blt f.type n)) fs.toList () = true := h
  clear h
  generalize fs.toList = l at h'
  induction l with
  | nil => intro f hf; cases hf
  | cons g l ih =>
    intro f hf
    rw [listR_cons] at h'
    obtain ⟨h1, h2⟩ := boolC_ff h'
    rcases List.mem_cons.1 hf with rfl | hf
    · rw [Nat.blt_eq] at h1; exact h1
    · exact ih h2 f hf
theorem boolC_k {x y : R β} {b : Bool} {q : β} (h : boolC x y b = .ok q) : (b = false ∧ x = .ok q) ∨ (b = true ∧ y = .ok q) := by
  cases b with
  | false => exact .inl ⟨rfl, h⟩
  | true => exact .inr ⟨rfl, h⟩
theorem mapLit_ok {l : List Value} {k : List AV → R β} {q : β} (h : mapK (fun v k => k (AV.lit v)) l k = .ok q) : k (l.map AV.lit) = .ok q := by
  obtain ⟨l', h1, h2⟩ := mapK_ok (S := fun v a => a = AV.lit v) (fun a k q h => ⟨_, rfl, h⟩) h
  have : l' = l.map AV.lit := by
    clear h h2
    induction h1 with
    | nil => rfl
    | cons e _ ih => rw [e, ih]; rfl
  rw [← this]; exact h2
theorem tiOf_ok {n : Nat} {ts : List TypeInfo} (x : TypeInfo) (k : Option TI → R β) (q : β) (h : tiOf n ts x k = .ok q) : ∃ o, k o = .ok q ∧ ∀ i, o = some i → TF n ts x i := by
  unfold tiOf at h
  replace h := descK_ok h; obtain ⟨d, h, hd⟩ := h
  have hd' : ∀ i : TI, i.desc = d → (i.desc = x.desc ∧ (∀ s u, x.desc ≠ .named s u) ∨ ∃ s u y, x.desc = .named s u ∧ ts[u]? = some y ∧ i.desc = y.desc) := by
    intro i e
    rw [e]; exact hd
  split at h
  · exact ⟨none, h, fun i e => by cases e⟩
  · rename_i z hz
    rcases boolC_k h with ⟨_, h⟩ | ⟨hfl, h⟩
    · exact ⟨none, h, fun i e => by cases e⟩
    · split at h
      · rename_i cs
        replace h := mapLit_ok h
        rw [lenK_eq] at h
        rcases boolC_k h with ⟨_, h⟩ | ⟨hag, h⟩
        · exact ⟨none, h, fun i e => by cases e⟩
        · rcases boolC_k h with ⟨_, h⟩ | ⟨hl, h⟩
          · exact ⟨none, h, fun i e => by cases e⟩
          · rcases boolC_k h with ⟨_, h⟩ | ⟨hc, h⟩
            · exact ⟨none, h, fun i e => by cases e⟩
            · refine ⟨_, h, fun i e => ?_⟩
              cases e
              exact ⟨hd' _ rfl, rfl, rfl, ⟨_, hz, rfl, .inl ⟨hag, _, rfl⟩⟩, by simpa using hl, hc, fldsB_ok hfl⟩
      · rename_i hna
        rcases boolC_k h with ⟨hag, h⟩ | ⟨_, h⟩
        · rcases boolC_k h with ⟨_, h⟩ | ⟨hl, h⟩
          · exact ⟨none, h, fun i e => by cases e⟩
          · rcases boolC_k h with ⟨_, h⟩ | ⟨hc, h⟩
            · exact ⟨none, h, fun i e => by cases e⟩
            · refine ⟨_, h, fun i e => ?_⟩
              cases e
              have hone : z.oneCell' = true := isCell_one (ρ := fun _ => none) (.lit z) hc
              have hl' : x.size = 1 := by simpa using hl
              exact ⟨hd' _ rfl, rfl, rfl, ⟨_, hz, by rw [cells_one hone]; rfl, .inr ⟨hag, hone⟩⟩, by rw [hl']; rfl, by show boolC false _ _ = true; rw [hc]; rfl, fldsB_ok hfl⟩
        · exact ⟨none, h, fun i e => by cases e⟩
end

section
variable {P : Program}
theorem info_eq {t : TypeId} {x : TypeInfo} (h : P.types.toList[t]? = some x) : P.info? t = some x := by
  have h' : P.types[t]? = some x := by simpa using h
  have hlt : t < P.types.size := (Array.getElem?_eq_some_iff.1 h').1
  show (if t < P.types.size then P.types[t]? else _) = some x
  rw [if_pos hlt]; exact h'
theorem tf_ok {t : TypeId} {x : TypeInfo} {i : TI} (hx : P.types.toList[t]? = some x) (h : TF P.types.toList.length P.types.toList x i) : TIOK P t i := by
  have hi := info_eq hx
  refine ⟨?_, ⟨x, ?_⟩, h.len, h.cell, fun fs e f hf => ?_⟩
  · unfold Program.underlying
    rw [hi]
    rcases h.desc with ⟨e, hn⟩ | ⟨s, u, y, e1, e2, e3⟩
    · rw [e]
      cases x with
      | mk d =>
        cases d <;> first | rfl | exact absurd rfl (hn _ _)
    · have hy := info_eq e2
      cases x
      simp only at e1
      subst e1
      simp only [hy, Option.map_some, e3]
  · obtain ⟨zv, h1, h2, h3⟩ := h.zero
    exact ⟨zv, hi, h.size.symm, h.bytes.symm, h1, h2, h3⟩
  · have := h.flds fs e f hf
    exact ⟨P.types.toList[f.type], info_eq (List.getElem?_eq_getElem this)⟩

/-! ### the check of all plans -/
noncomputable def assocB (l : List (Nat × List PStep)) (id : Nat) (ops : Array Oper) : Bool :=
  List.rec (motive := fun _ => Bool) true (fun p _ ih => match p with | (i, pl) => boolC false ih (boolC true (planB ops pl) (Nat.beq i id))) l
noncomputable def codeB (l : List (Nat × List PStep)) (c : Code) : Bool :=
  Code.rec (motive := fun _ => Bool) true (fun id ops d => boolC true (assocB l id ops) d) (fun _ _ a b => boolC false b a) (fun _ _ _ a b => boolC false b a) (fun _ _ a => a) (fun _ a => a)
    (fun _ _ _ _ a b => boolC false b a) (fun _ => true) (fun _ _ => true) (fun _ => true) (fun _ => true) true (fun _ => true) c
noncomputable def nthF (l : List Func) (n : Nat) : Option Func := List.rec (motive := fun _ => Nat → Option Func) (fun _ => none) (fun a _ ih n => Nat.rec (motive := fun _ => Option Func) (some a) (fun m _ => ih m) n) l n
noncomputable def plansB (P : Program) (pl : Plans) : Bool :=
  List.rec (motive := fun _ => Bool) true (fun p _ ih => match p with | (f, l) => boolC false ih (match nthF P.funcs.toList f with | some fn => (match fn.body with | some c => codeB l c | none => true) | none => true)) pl
theorem nthF_eq : ∀ (l : List Func) (n : Nat), nthF l n = l[n]?
  | [], _ => rfl
  | a :: l, 0 => rfl
  | a :: l, n + 1 => (nthF_eq l n).trans (by simp)
theorem assocB_ok {id : Nat} {ops : Array Oper} : ∀ {l : List (Nat × List PStep)}, assocB l id ops = true → ∀ pl, (id, pl) ∈ l → PlanOK ops pl
  | [], _, _, h => by cases h
  | (i, pl') :: l, h, pl, hm => by
    have h' : boolC false (assocB l id ops) (boolC true (planB ops pl') (Nat.beq i id)) = true := h
    obtain ⟨h1, h2⟩ := boolC_ff h'
    rcases List.mem_cons.1 hm with e | hm
    · cases e
      have : Nat.beq id id = true := Nat.beq_eq.mpr rfl
      rw [this] at h1
      exact planB_ok h1
    · exact assocB_ok h2 pl hm
theorem codeB_ok {E : Env} {f : FuncId} {l : List (Nat × List PStep)} (hE : ∀ tb id pl, E.pl.get f = some tb → tb.get id = some pl → (id, pl) ∈ l) : ∀ c : Code, codeB l c = true → OKc E f c
  | .skip, _ => trivial
  | .region id ops false, _ => trivial
  | .region id ops true, h => fun tb pl h1 h2 => assocB_ok (l := l) h pl (hE tb id pl h1 h2)
  | .seq a b, h => by obtain ⟨h1, h2⟩ := boolC_ff (y := codeB l a) (x := codeB l b) h; exact ⟨codeB_ok hE a h1, codeB_ok hE b h2⟩
  | .cond _ a b, h => by obtain ⟨h1, h2⟩ := boolC_ff (y := codeB l a) (x := codeB l b) h; exact ⟨codeB_ok hE a h1, codeB_ok hE b h2⟩
  | .block _ a, h => codeB_ok hE a h
  | .loop a, h => codeB_ok hE a h
  | .rangeFunc _ _ a b, h => by obtain ⟨h1, h2⟩ := boolC_ff (y := codeB l a) (x := codeB l b) h; exact ⟨codeB_ok hE a h1, codeB_ok hE b h2⟩
  | .exit _, _ => trivial
  | .ret, _ => trivial
  | .scope _, _ => trivial
  | .label _, _ => trivial
  | .goto _, _ => trivial
  | .refuse _, _ => trivial
theorem plansB_ok : ∀ {pl : Plans}, plansB P pl = true → ∀ f l fn c, (f, l) ∈ pl → P.funcs[f]? = some fn → fn.body = some c → codeB l c = true
  | [], _, _, _, _, _, h, _, _ => by cases h
  | (f', l') :: pl, h, f, l, fn, c, hm, hf, hb => by
    have h' : boolC false (plansB P pl) (match nthF P.funcs.toList f' with | some fn => (match fn.body with | some c => codeB l' c | none => true) | none => true) = true := h
    obtain ⟨h1, h2⟩ := boolC_ff h'
    rcases List.mem_cons.1 hm with e | hm
    · cases e
      rw [nthF_eq, Array.getElem?_toList, hf] at h1
      dsimp only at h1
      rw [hb] at h1
      exact h1
    · exact plansB_ok h2 f l fn c hm hf hb
theorem okc_none {E : Env} {f : FuncId} (h : E.pl.get f = none) (c : Code) : OKc E f c :=
  codeB_ok (l := []) (fun tb id pl h1 => by rw [h] at h1; cases h1) c (by
    induction c with
    | skip => rfl
    | region id ops d => cases d <;> rfl
    | seq a b iha ihb => show boolC false (codeB [] b) (codeB [] a) = true; rw [iha, ihb]; rfl
    | cond x a b iha ihb => show boolC false (codeB [] b) (codeB [] a) = true; rw [iha, ihb]; rfl
    | block id a ih => exact ih
    | loop a ih => exact ih
    | rangeFunc g ps a b iha ihb => show boolC false (codeB [] b) (codeB [] a) = true; rw [iha, ihb]; rfl
    | exit id => rfl
    | scope a ih => rfl
    | label l => rfl
    | goto l => rfl
    | ret => rfl
    | refuse w => rfl)

/-- What the kernel's run of a program rests on. -/
structure Given (P : Program) (pl : Plans) (ky : List (Nat × KS)) : Prop where
  plans : plansB P pl = true
  nm : ∀ (f : FuncId) (fn : Func), P.funcs[f]? = some fn → fn.body.isSome = true → (fn.name == "runtime.NumGoroutine") = false
  ky : ∀ t ks, (t, ks) ∈ ky → KeyFacts P t ks
  mixed : P.follows .mixedOrders = true

theorem envK_ok {pl : Plans} {ky : List (Nat × KS)} {hk : List (Nat × Nat)} {β : Type} {k : Env → R β} {q : β} (G : Given P pl ky) (h : envK P pl ky hk k = .ok q) :
    ∃ E, k E = .ok q ∧ EnvOK P E ∧ (∀ f n, E.hk.get f = some n → (f, n) ∈ hk) ∧ (∀ g id, E.gl.get g = some id → g = 0 ∧ id = 0) := by
  unfold envK at h
  rw [lenK_eq] at h
  replace h := rowK_spec (fun x k q h => tiOf_ok x k q h) h; obtain ⟨tt, h, htt⟩ := h
  replace h := rowK_spec (FS := fun a v => v = a) (fun a k q h => ⟨_, h, fun v e => (Option.some.inj e).symm⟩) h; obtain ⟨ft, h, hft⟩ := h
  unfold plansK at h
  replace h := pairsK_spec (FS := fun (a : List (Nat × List PStep)) (v : Tr (List PStep)) => ∀ id p, v.get id = some p → (id, p) ∈ a) (fun a k q h => by
    obtain ⟨t, h1, h2⟩ := pairsK_spec (FS := fun (a v : List PStep) => v = a) (fun a k q h => ⟨_, h, rfl⟩) h
    exact ⟨t, h1, fun id p hp => by obtain ⟨a', h3, h4⟩ := h2 id p hp; rw [h4]; exact h3⟩) h
  obtain ⟨pt, h, hpt⟩ := h
  replace h := pairsK_spec (FS := fun (a v : KS) => v = a) (fun a k q h => ⟨_, h, rfl⟩) h; obtain ⟨kt, h, hkt⟩ := h
  replace h := pairsK_spec (FS := fun (a v : Nat) => v = a) (fun a k q h => ⟨_, h, rfl⟩) h; obtain ⟨ht, h, hht⟩ := h
  replace h := pairsK_spec (FS := fun (a v : Nat) => v = a) (fun a k q h => ⟨_, h, rfl⟩) h; obtain ⟨gt, h, hgt⟩ := h
  refine ⟨_, h, ⟨fun t i hi => ?_, fun f fn hf => ?_, G.nm, fun t ks hk' => ?_, G.mixed, fun f fn c hf hb => ?_⟩, fun f n hn => ?_, fun g id hg => ?_⟩
  · obtain ⟨x, h1, h2⟩ := htt t i hi
    exact tf_ok h1 h2
  · obtain ⟨a, h1, h2⟩ := hft f fn hf
    rw [h2]; simpa using h1
  · obtain ⟨a, h1, h2⟩ := hkt t ks hk'
    rw [h2]; exact G.ky t a h1
  · cases hp : pt.get f with
    | none => exact okc_none hp c
    | some tb =>
      obtain ⟨l, h1, h2⟩ := hpt f tb hp
      obtain ⟨a, h3, h4⟩ := hft f fn hf
      have hf' : P.funcs[f]? = some fn := by rw [h4]; simpa using h3
      refine codeB_ok (fun tb' id p' h5 h6 => ?_) c (plansB_ok G.plans f l fn c h1 hf' hb)
      rw [hp] at h5; cases h5
      exact h2 id p' h6
  · obtain ⟨a, h1, h2⟩ := hht f n hn
    rw [h2]; exact h1
  · obtain ⟨a, h1, h2⟩ := hgt g id hg
    simp at h1
    exact ⟨h1.1, by rw [h2, h1.2]⟩

/-- The library's table, as it lies. -/
def TabAt (w : World) (tab : List Nat) : Prop := ∃ c e fz, w.heap[0]? = some (.cells c e fz) ∧ ∀ (i n : Nat), tab[i]? = some n → c[i]? = some (.int .u8 n)

theorem heapK_ok {tab : List Nat} {β : Type} {k : AH → R β} {q : β} (h : heapK tab k = .ok q) : ∃ H, k H = .ok q ∧ ∀ (E : Env) (w : World), (∀ g id, E.gl.get g = some id → g = 0 ∧ id = 0) → TabAt w tab → ∃ ρ, HR E w ρ H w := by
  unfold heapK at h
  obtain ⟨l, h1, h⟩ := mapK_ok (S := fun (n : Nat) a => a = AV.lit (.int .u8 (.ofNat n))) (fun a k q h => ⟨_, rfl, h⟩) h
  replace h := writeK_ok h; obtain ⟨t, ht, h⟩ := h
  rw [lenK_eq] at h
  replace h := newK_ok h; obtain ⟨H, hA, h⟩ := h
  refine ⟨H, h, fun E w hgl htab => ?_⟩
  obtain ⟨c, e, fz, hb, hc⟩ := htab
  have hget : ∀ j, H.t.get j = if j = 0 then some (.cells l.length t true) else none := by
    intro j
    rw [hA.2 j]
    show (if j = 0 then _ else (Tr.e : Tr AO).get j) = _
    rw [Tr.get_e]
  have hl : ∀ (i : Nat) av, l[i]? = some av → ∃ n : Nat, tab[i]? = some n ∧ av = .lit (.int .u8 n) := by
    clear h ht hA hget hb hc; clear h
    induction h1 with
    | nil => intro i av h; simp at h
    | @cons a b la lb e _ ih =>
      intro i av h
      cases i with
      | zero => simp at h; subst h; exact ⟨a, rfl, e⟩
      | succ i => simpa using ih i av (by simpa using h)
  have hlen : l.length ≤ c.size := by
    rcases Nat.lt_or_ge c.size l.length with g | g
    · obtain ⟨n, h2, _⟩ := hl c.size l[c.size] (List.getElem?_eq_getElem g)
      have := hc c.size n h2
      simp at this
    · exact g
  have one : ∀ {i b s N}, (fun i => if i = 0 then some (0, 0, c.size) else none : Ren) i = some (b, s, N) → i = 0 ∧ b = 0 ∧ s = 0 ∧ N = c.size := by
    intro i b s N hi
    dsimp only at hi
    split at hi
    · cases hi; exact ⟨by assumption, rfl, rfl, rfl⟩
    · cases hi
  refine ⟨fun i => if i = 0 then some (0, 0, c.size) else none, ⟨fun i p hi => ?_, fun i b s N o hi ho => ?_, fun i j b s N s' N' o o' hi hj _ _ _ => ?_, fun i b s N o hi ho hro => ?_, fun i b s N hi => ?_, fun g i hg => ?_, Chg.refl _ _, fun i hi => ?_⟩⟩
  · obtain ⟨b, s, N⟩ := p
    obtain ⟨rfl, _⟩ := one hi
    rw [hA.1]; exact Nat.zero_lt_succ _
  · obtain ⟨rfl, rfl, rfl, rfl⟩ := one hi
    rw [hget, if_pos rfl] at ho
    cases ho
    refine ⟨c, e, fz, hb, rfl, by omega, fun h => (by cases h), fun j av hj hav => ?_, fun _ => rfl⟩
    rw [ht, if_pos (by omega), Nat.sub_zero] at hav
    obtain ⟨n, h2, rfl⟩ := hl j av hav
    exact ⟨_, by rw [Nat.zero_add]; exact hc j n h2, .lit _⟩
  · rw [(one hi).1, (one hj).1]
  · rw [hget] at ho
    split at ho
    · cases ho; cases hro
    · cases ho
  · obtain ⟨_, rfl, _, _⟩ := one hi
    exact blk_lt hb
  · obtain ⟨rfl, rfl⟩ := hgl g i hg
    exact ⟨c.size, rfl⟩
  · rw [hget, if_neg]
    rintro rfl
    rw [hA.1] at hi
    exact absurd hi (by show ¬ (0 + 1 ≤ 0); omega)

/-- What a run yields, if that is a value of one cell that is no address. -/
noncomputable def litOf (r : R (AV × AH)) : Option Value :=
  match r with
  | .ok p => (match p with | (v, _) => match v with | .lit v => some v | _ => none)
  | .er _ => none
/-- **A CLOSED RUN**, from the program's tables on. The arguments may be whatever values: the evaluator may hand them on. -/
theorem closed_run {pl : Plans} {ky : List (Nat × KS)} {hk : List (Nat × Nat)} {tab : List Nat} {fuel : Nat} {f : FuncId} {args : List AV} {args' : Array Value} {v : Value} (G : Given P pl ky) (h : litOf (runK P pl ky hk tab fuel f args) = some v) (ha : ∀ ρ, RlL ρ args args'.toList)
    (w : World) (ht : TabAt w tab) (HK : ∀ E, EnvOK P E → (∀ f n, E.hk.get f = some n → (f, n) ∈ hk) → HkOK P E w) :
    Calls P f args' w fun e w' => e = .returned v ∧ Chg (fun _ => False) w w' := by
  have hr : ∃ H', runK P pl ky hk tab fuel f args = .ok (.lit v, H') := by
    unfold litOf at h
    split at h
    · rename_i p hp
      obtain ⟨u, H'⟩ := p
      dsimp only at h
      split at h
      · cases h; exact ⟨H', hp⟩
      · cases h
    · cases h
  obtain ⟨H', hr⟩ := hr
  unfold runK at hr
  obtain ⟨E, h1, hE, hh, hg⟩ := envK_ok G hr
  obtain ⟨H, h2, hst⟩ := heapK_ok h1
  obtain ⟨ρ, hρ⟩ := hst E w hg ht
  exact run_sound hE (HK E hE hh) h2 hρ (ha ρ)
end
end Go.Proofs.YtclljjfkaljdnaaGreatDoor
