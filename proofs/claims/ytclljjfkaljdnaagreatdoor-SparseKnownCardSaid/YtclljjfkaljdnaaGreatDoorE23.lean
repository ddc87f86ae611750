/- Calls that are not looked into: a map's keys, sorted, collected; the least of them. No program in sight. -/
import Derived.Test.YtclljjfkaljdnaaGreatDoorE22
import Derived.Shelf.SlIterI.Sorted
import Derived.Shelf.SlIterI.Nil
import Derived.Lib.Slices
namespace Go.Proofs.YtclljjfkaljdnaaGreatDoor
open Go.RowKit

/-! ### sorted lists of numbers -/
def insL (n : Int) : List Int → List Int
  | [] => [n]
  | m :: l => if n ≤ m then n :: m :: l else m :: insL n l
def isort : List Int → List Int
  | [] => []
  | n :: l => insL n (isort l)
theorem cmpI (n m : Int) : (match n, m with | .ofNat a, .ofNat b => Nat.ble a b | .negSucc a, .negSucc b => Nat.ble b a | .negSucc _, .ofNat _ => true | .ofNat _, .negSucc _ => false) = decide (n ≤ m) := by
  cases n with
  | ofNat a =>
    cases m with
    | ofNat b =>
      show Nat.ble a b = decide ((a : Int) ≤ (b : Int))
      rw [Bool.eq_iff_iff, Nat.ble_eq, decide_eq_true_iff]
      omega
    | negSucc b => symm; show decide (Int.ofNat a ≤ Int.negSucc b) = false; rw [decide_eq_false_iff_not]; have := Int.negSucc_lt_zero b; have := Int.natCast_nonneg a; simp only [Int.ofNat_eq_natCast]; omega
  | negSucc a =>
    cases m with
    | ofNat b => symm; show decide (Int.negSucc a ≤ Int.ofNat b) = true; rw [decide_eq_true_iff]; have := Int.negSucc_lt_zero a; have := Int.natCast_nonneg b; simp only [Int.ofNat_eq_natCast]; omega
    | negSucc b =>
      show Nat.ble b a = decide (Int.negSucc a ≤ Int.negSucc b)
      rw [Bool.eq_iff_iff, Nat.ble_eq, decide_eq_true_iff, Int.negSucc_eq, Int.negSucc_eq]
      omega
theorem insI_eq {β : Type} (n : Int) : ∀ (l : List Int) (k : List Int → R β), insI n l k = k (insL n l)
  | [], k => rfl
  | m :: l, k => by
    have h : insI n (m :: l) k = boolC (insI n l fun r => k (m :: r)) (k (n :: m :: l)) (match n, m with | .ofNat a, .ofNat b => Nat.ble a b | .negSucc a, .negSucc b => Nat.ble b a | .negSucc _, .ofNat _ => true | .ofNat _, .negSucc _ => false) := rfl
    rw [h, cmpI, insI_eq n l]
    by_cases e : n ≤ m
    · rw [decide_eq_true e, show insL n (m :: l) = n :: m :: l from if_pos e]; rfl
    · rw [decide_eq_false e, show insL n (m :: l) = m :: insL n l from if_neg e]; rfl
theorem sortI_ok {β : Type} : ∀ {l : List Value} {k : List Int → R β} {q : β}, sortI l k = .ok q → ∃ ns : List Int, l = ns.map (Value.int .i64) ∧ k (isort ns) = .ok q
  | [], k, q, h => ⟨[], rfl, h⟩
  | v :: l, k, q, h => by
    have h' : (match v with | .int .i64 n => sortI l fun r => insI n r k | _ => .er [149]) = .ok q := h
    split at h'
    · rename_i n
      obtain ⟨ns, h1, h2⟩ := sortI_ok (l := l) h'
      rw [insI_eq] at h2
      exact ⟨n :: ns, by rw [h1]; rfl, h2⟩
    · cases h'
theorem insL_perm (n : Int) : ∀ l : List Int, (insL n l).Perm (n :: l)
  | [] => List.Perm.refl _
  | m :: l => by
    unfold insL
    split
    · exact List.Perm.refl _
    · exact ((insL_perm n l).cons m).trans (List.Perm.swap n m l)
theorem isort_perm : ∀ l : List Int, (isort l).Perm l
  | [] => List.Perm.refl _
  | n :: l => (insL_perm n _).trans ((isort_perm l).cons n)
theorem insL_sorted (n : Int) : ∀ l : List Int, l.Pairwise (· ≤ ·) → (insL n l).Pairwise (· ≤ ·)
  | [], _ => by simp [insL]
  | m :: l, h => by
    unfold insL
    rw [List.pairwise_cons] at h
    split
    · rename_i hle
      rw [List.pairwise_cons]
      refine ⟨fun x hx => ?_, by rw [List.pairwise_cons]; exact h⟩
      rcases List.mem_cons.1 hx with rfl | hx
      · exact hle
      · exact Int.le_trans hle (h.1 x hx)
    · rename_i hle
      rw [List.pairwise_cons]
      refine ⟨fun x hx => ?_, insL_sorted n l h.2⟩
      rcases List.mem_cons.1 ((insL_perm n l).mem_iff.1 hx) with rfl | hx
      · omega
      · exact h.1 x hx
theorem isort_sorted : ∀ l : List Int, (isort l).Pairwise (· ≤ ·)
  | [] => List.Pairwise.nil
  | n :: l => insL_sorted n _ (isort_sorted l)
theorem mergeSort_isort {ss ns : List Int} (h : ss.Perm ns) : ss.mergeSort leI = isort ns := by
  rw [mergeSort_of_perm_i (h.trans (isort_perm ns).symm)]
  exact List.mergeSort_of_pairwise ((isort_sorted ns).imp fun h => by simpa [leI] using h)

/-! ### a map's keys -/
theorem isI64_ok {v : Value} (h : isI64 v = true) : ∃ n : Int, v = .int .i64 n ∧ (Lit.int .i64 n).wf = true := by
  unfold isI64 at h
  split at h
  · rename_i n
    refine ⟨n, rfl, ?_⟩
    show (decide (IntKind.i64.min ≤ n) && decide (n ≤ IntKind.i64.max)) = true
    have e1 : IntKind.i64.min = -9223372036854775808 := rfl
    have e2 : IntKind.i64.max = 9223372036854775807 := rfl
    rw [e1, e2, Bool.and_eq_true, decide_eq_true_iff, decide_eq_true_iff]
    cases n with
    | ofNat a => have := Nat.le_of_ble_eq_true h; simp only [Int.ofNat_eq_natCast]; omega
    | negSucc a => have := Nat.le_of_ble_eq_true h; rw [Int.negSucc_eq]; omega
  · cases h
theorem apartB_ok {b : Nat} {v : Value} : ∀ {l : List AE}, apartB b v l = true → ∀ e ∈ l, e.b ≠ b ∧ eqKV e.k v = false
  | [], _, e, he => by cases he
  | ⟨x, b', u⟩ :: l, h, e, he => by
    have h' : boolC (boolC (apartB b v l) false (eqKV x v)) false (Nat.beq b' b) = true := h
    obtain ⟨h1, h2⟩ := boolC_tf h'
    obtain ⟨h3, h4⟩ := boolC_tf h2
    rcases List.mem_cons.1 he with e1 | he
    · subst e1
      exact ⟨fun e => by rw [← Nat.beq_eq] at e; rw [h1] at e; exact absurd e (by decide), h3⟩
    · exact apartB_ok h4 e he
theorem mapFine_ok {c : Nat} : ∀ {l : List AE}, mapFine c l = true → (∀ e ∈ l, e.b < c ∧ isI64 e.k = true) ∧ (l.map (·.b)).Nodup ∧ (l.map (·.k)).Nodup
  | [], _ => ⟨by simp, by simp, by simp⟩
  | ⟨x, b, u⟩ :: l, h => by
    have h' : boolC false (boolC false (boolC false (mapFine c l) (apartB b x l)) (isI64 x)) (Nat.blt b c) = true := h
    obtain ⟨h1, h'⟩ := boolC_ff h'
    obtain ⟨h2, h'⟩ := boolC_ff h'
    obtain ⟨h3, h'⟩ := boolC_ff h'
    obtain ⟨g1, g2, g3⟩ := mapFine_ok h'
    have hap := apartB_ok h3
    refine ⟨fun e he => ?_, ?_, ?_⟩
    · rcases List.mem_cons.1 he with e1 | he
      · subst e1; exact ⟨by rw [Nat.blt_eq] at h1; exact h1, h2⟩
      · exact g1 e he
    · rw [List.map_cons, List.nodup_cons]
      refine ⟨fun hm => ?_, g2⟩
      obtain ⟨e, he, hb⟩ := List.mem_map.1 hm
      exact (hap e he).1 hb
    · rw [List.map_cons, List.nodup_cons]
      refine ⟨fun hm => ?_, g3⟩
      obtain ⟨e, he, hk⟩ := List.mem_map.1 hm
      have := (hap e he).2
      have hk' : e.k = x := hk
      rw [hk'] at this
      obtain ⟨n, hn, _⟩ := isI64_ok h2
      have hs : eqKV x x = true := by rw [hn]; exact eqKV_self (ks := .one (.i .i64)) (show isKC (.i .i64) (.int .i64 n) = true from rfl)
      rw [hs] at this; cases this

/-- What of a map a contract is told. -/
def KeysAre (P : Program) (k : TypeId) (w : World) (m : Option Nat) (ks : List Int) : Prop :=
  (m = none ∧ ks = []) ∨ ∃ b n D0, m = some b ∧ w.ownsMap (H := Unit) P k (fun _ => some (.nil, [])) b n D0 ∧ (Go.intKeys D0).Perm ks ∧ Maps.size D0 ≤ 1000000
theorem keysAre_of {P : Program} {k : TypeId} (hk : P.underlying k = some (.int .i64)) {ρ : Ren} {w : World} {b c : Nat} {es : Array MapEntry} {l : List AE} (hb : w.heap[b]? = some (.map es c)) (hF : F2 (ER ρ) l es.toList) (hf : mapFine c l = true) (hn : l.length ≤ 1000000) {ns : List Int}
    (hns : l.map (·.k) = ns.map (Value.int .i64)) : KeysAre P k w (some b) ns := by
  obtain ⟨g1, g2, g3⟩ := mapFine_ok hf
  have e1 : es.toList.map (·.born) = l.map (·.b) := by
    clear hb hf hn hns g1 g2 g3
    generalize es.toList = xs at hF
    induction hF with
    | nil => rfl
    | cons h _ ih => simp [h.2.1, ih]
  have e2 : es.toList.map (·.key) = l.map (·.k) := by
    clear hb hf hn hns g1 g2 g3 e1
    generalize es.toList = xs at hF
    induction hF with
    | nil => rfl
    | cons h _ ih => simp [h.1, ih]
  have hlen : es.toList.length = l.length := hF.length.symm
  have hkey : ∀ x ∈ es.toList, ∃ n : Int, x.key = .int .i64 n ∧ (Lit.int .i64 n).wf = true ∧ x.born < c := by
    refine hF.all (A := fun e => e.b < c ∧ isI64 e.k = true) g1 fun e x h hA => ?_
    obtain ⟨n, h1, h2⟩ := isI64_ok hA.2
    exact ⟨n, by rw [h.1]; exact h1, h2, by rw [h.2.1]; exact hA.1⟩
  have hrd : ∀ x ∈ es.toList, ∃ n : Int, x.key = .int .i64 n ∧ WideElems.rd (H := Unit) P k (fun _ => some (.nil, [])) x = some (.int .i64 n, .nil) := by
    intro x hx
    obtain ⟨n, h1, h2, _⟩ := hkey x hx
    refine ⟨n, h1, ?_⟩
    unfold WideElems.rd
    rw [h1, Maps.keyOf_int_mk hk h2]
    rfl
  refine .inr ⟨b, es.size, _, rfl, ⟨es, c, hb, ⟨?_, ⟨fun x hx => (hkey x hx).choose_spec.2.2, by rw [e1]; exact g2, by rw [e2]; exact g3⟩, fun x hx => by obtain ⟨n, _, h⟩ := hrd x hx; exact ⟨_, h⟩⟩, Nat.le_refl _, rfl⟩, ?_, ?_⟩
  · have : es.size = es.toList.length := by simp
    unfold maxLen; omega
  · show (List.map (fun p : Lit × DataW Unit => Go.intOf p.1) _).Perm ns
    refine ((WideShapes.sorted_perm _).map _).trans ?_
    rw [List.map_map]
    have : es.toList.map ((fun p : Lit × DataW Unit => Go.intOf p.1) ∘ WideElems.rg P k (fun _ => some (.nil, []))) = ns := by
      have h1 : es.toList.map ((fun p : Lit × DataW Unit => Go.intOf p.1) ∘ WideElems.rg P k (fun _ => some (.nil, []))) = es.toList.map (fun x => match x.key with | .int _ n => n | _ => 0) := by
        refine List.map_congr_left fun x hx => ?_
        obtain ⟨n, h2, h3⟩ := hrd x hx
        simp only [Function.comp, WideElems.rg_of h3, h2, Go.intOf]
      rw [h1]
      have h2 : es.toList.map (fun x => match x.key with | .int _ n => n | _ => 0) = (es.toList.map (·.key)).map (fun v => match v with | .int _ n => n | _ => 0) := by rw [List.map_map]; rfl
      rw [h2, e2, hns, List.map_map]
      have : ((fun v => match v with | .int _ n => n | _ => 0) ∘ Value.int .i64) = (id : Int → Int) := rfl
      rw [this, List.map_id]
    rw [this]
  · show (List.length _) ≤ 1000000
    rw [(WideShapes.sorted_perm _).length_eq, List.length_map, hlen]
    omega

/-! ### contracts -/
def SortedC (P : Program) (k T : TypeId) (f g : FuncId) : Prop :=
  ∀ (w : World) (Bm : Nat) (m : Option Nat) (ks : List Int), Bm < w.heap.size → w.cell? ⟨Bm, 0, none⟩ = some (.map m) → KeysAre P k w m ks →
    Calls P f #[.func (.func g) #[] #[.pointer (some ⟨Bm, 0, none⟩)]] w fun e w' => ∃ (v : Value) (ss : List Int), e = .returned v ∧ ss.Perm ks ∧ w'.ownsRow w.heap.size T 1 v ss.length ((ss.mergeSort leI).map encZ) ∧ (v = .slice none 0 0 ↔ ss = []) ∧ Below w.heap.size w w'
def CollectC (P : Program) (k T : TypeId) (f g : FuncId) : Prop :=
  ∀ (w : World) (Bm : Nat) (m : Option Nat) (ks : List Int), Bm < w.heap.size → w.cell? ⟨Bm, 0, none⟩ = some (.map m) → KeysAre P k w m ks →
    Calls P f #[.func (.func g) #[] #[.pointer (some ⟨Bm, 0, none⟩)]] w fun e w' => ∃ (v : Value) (ss : List Int), e = .returned v ∧ ss.Perm ks ∧ w'.ownsRow w.heap.size T 1 v ss.length (ss.map encZ) ∧ (v = .slice none 0 0 ↔ ss = []) ∧ Below w.heap.size w w'
/-- A closed call: whatever it allocates, it returns true. -/
def TrueC (P : Program) (w0 : World) (f : FuncId) : Prop :=
  ∀ w, Chg (fun _ => False) w0 w → Calls P f #[] w fun e w' => e = .returned (.bool true) ∧ Chg (fun _ => False) w w'
def MinC (P : Program) (f : FuncId) : Prop :=
  ∀ (b off n c : Nat) (zs : List Int) (w : World), 0 < n → n ≤ zs.length → n ≤ 9223372036854775807 → (∀ j, j < zs.length → w.cell? ⟨b, off + j, none⟩ = some (.int .i64 (zs.getD j 0))) →
    Calls P f #[.slice (some ⟨b, off, none⟩) n c] w fun e w' => e = .returned (.int .i64 (Lib.minOf (zs.take n))) ∧ w' = w

section
variable {P : Program} {E : Env} {w0 w : World} {ρ : Ren} {H : AH}
/-- Later worlds that leave the old blocks. -/
theorem HR.below (h : HR E w0 ρ H w) {w' : World} (hb : Below w.heap.size w w') : HR E w0 ρ H w' :=
  ⟨h.lt, fun id b s N o h5 h6 => by rw [hb.block b (h.blk id b s N h5)]; exact h.obj id b s N o h5 h6, h.inj, h.own, fun id b s N h5 => Nat.lt_of_lt_of_le (h.blk id b s N h5) hb.size, h.glob,
    ⟨hb.os.trans h.chg.os, hb.tape.trans h.chg.tape, hb.output.trans h.chg.output, Nat.le_trans h.chg.size hb.size, fun k hk hs => (hb.block k (Nat.lt_of_lt_of_le hk h.chg.size)).trans (h.chg.block k hk hs)⟩, h.fr⟩
theorem HR.later (h : HR E w0 ρ H w) {w' : World} (hb : Chg (fun _ => False) w w') : HR E w0 ρ H w' :=
  ⟨h.lt, fun id b s N o h5 h6 => by rw [hb.block b (h.blk id b s N h5) (fun x => x)]; exact h.obj id b s N o h5 h6, h.inj, h.own, fun id b s N h5 => Nat.lt_of_lt_of_le (h.blk id b s N h5) hb.size, h.glob, h.chg.trans hb, h.fr⟩
/-- A new number for a block that lies there, and that nobody knows of. -/
theorem HR.adopt (h : HR E w0 ρ H w) {B : Nat} (hB : ∀ id b s N, ρ id = some (b, s, N) → b < B) {H' : AH} {o : AO} {g s N : Nat} (hg : B ≤ g) (hgl : g < w.heap.size) (hw0 : w0.heap.size ≤ g) (ha : Added H o H') (hor : OR E (ρ.add H.next (g, s, N)) o s N w.heap[g]?) :
    HR E w0 (ρ.add H.next (g, s, N)) H' w ∧ Later ρ H (ρ.add H.next (g, s, N)) H' := by
  have hf := h.fresh
  have hx := Ren.add_ext (p := (g, s, N)) hf
  obtain ⟨hn, hgt⟩ := ha
  have cases : ∀ j p, (ρ.add H.next (g, s, N)) j = some p → (j = H.next ∧ p = (g, s, N)) ∨ (j ≠ H.next ∧ ρ j = some p) := by
    intro j p hp
    unfold Ren.add at hp
    split at hp
    · rename_i e; cases hp; exact .inl ⟨e, rfl⟩
    · rename_i e; exact .inr ⟨e, hp⟩
  refine ⟨⟨?_, ?_, ?_, ?_, ?_, ?_, h.chg, fun j hj => ?_⟩, hx, fun j hj hnn => ⟨?_, ?_⟩, by omega⟩
  · intro j p hp
    rcases cases j p hp with ⟨rfl, _⟩ | ⟨_, hp⟩
    · omega
    · have := h.lt j p hp; omega
  · intro j b2 s2 N2 o2 hp ho2
    rcases cases j _ hp with ⟨rfl, e⟩ | ⟨hj, hp⟩
    · cases e
      rw [hgt, if_pos rfl] at ho2
      cases ho2; exact hor
    · rw [hgt, if_neg hj] at ho2
      exact (h.obj j b2 s2 N2 o2 hp ho2).mono hx
  · intro i j b2 s1 N1 s2 N2 o1 o2 h5 h6 h7 h8 h9
    rcases cases i _ h5 with ⟨rfl, e⟩ | ⟨hi, h5'⟩
    · cases e
      rcases cases j _ h6 with ⟨rfl, _⟩ | ⟨hj, h6'⟩
      · rfl
      · have := hB _ _ _ _ h6'; omega
    · rcases cases j _ h6 with ⟨rfl, e⟩ | ⟨hj, h6'⟩
      · cases e; have := hB _ _ _ _ h5'; omega
      · rw [hgt, if_neg hi] at h7
        rw [hgt, if_neg hj] at h8
        exact h.inj i j b2 s1 N1 s2 N2 o1 o2 h5' h6' h7 h8 h9
  · intro j b2 s2 N2 o2 hp ho2 hr2
    rcases cases j _ hp with ⟨rfl, e⟩ | ⟨hj, hp⟩
    · cases e; exact hw0
    · rw [hgt, if_neg hj] at ho2
      exact h.own j b2 s2 N2 o2 hp ho2 hr2
  · intro j b2 s2 N2 hp
    rcases cases j _ hp with ⟨rfl, e⟩ | ⟨hj, hp⟩
    · cases e; exact hgl
    · exact h.blk j b2 s2 N2 hp
  · intro gg i hgg
    obtain ⟨N', hN⟩ := h.glob gg i hgg
    exact ⟨N', hx _ _ hN⟩
  · rw [hgt, if_neg (by omega)]; exact h.fr j (by omega)
  · unfold Ren.add; rw [if_neg (Nat.ne_of_lt hj)]; exact hnn
  · rw [hgt, if_neg (Nat.ne_of_lt hj)]

/-- The keys that a hook is handed. -/
theorem keysK_ok {β : Type} {hk : List (Nat × Nat)} (hh : ∀ f n, E.hk.get f = some n → (f, n) ∈ hk) {f : AV} {k : List Value → R β} {q : β} (h : keysK E f H k = .ok q) :
    ∃ g id, (g, 1) ∈ hk ∧ f = .fn (.func g) [] [.ptr id 0] ∧ ∃ ks : List Value, k ks = .ok q ∧ ∀ (kt : TypeId) (w0 : World) (ρ : Ren) (w : World), P.underlying kt = some (.int .i64) → HR E w0 ρ H w → ∀ v, Rl ρ (.fn (.func g) [] [.ptr id 0]) v → ∀ ns : List Int, ks = ns.map (Value.int .i64) →
      ∃ Bm m, v = .func (.func g) #[] #[.pointer (some ⟨Bm, 0, none⟩)] ∧ Bm < w.heap.size ∧ w.cell? ⟨Bm, 0, none⟩ = some (.map m) ∧ KeysAre P kt w m ns := by
  unfold keysK at h
  split at h
  · rename_i g id
    replace h := getK_ok h; obtain ⟨n, hn, h⟩ := h
    replace h := natC_er h; obtain ⟨n1, rfl, h⟩ := h
    cases n1 with
    | succ n2 => cases h
    | zero =>
      have h : objK H id _ = .ok q := h
      replace h := objK_ok h; obtain ⟨ob, hob, h⟩ := h
      refine ⟨g, id, hh _ _ hn, rfl, ?_⟩
      split at h
      · rename_i cs ro
        replace h := getK_ok h; obtain ⟨m, hm, h⟩ := h
        -- what the box holds
        have box : ∀ (w0 : World) (ρ : Ren) (w : World), HR E w0 ρ H w → ∀ v, Rl ρ (.fn (.func g) [] [.ptr id 0]) v → ∃ Bm u, v = .func (.func g) #[] #[.pointer (some ⟨Bm, 0, none⟩)] ∧ Bm < w.heap.size ∧ w.cell? ⟨Bm, 0, none⟩ = some u ∧ Rl ρ m u := by
          intro w0 ρ w hr v hv
          obtain ⟨l', m', h1, h2, rfl⟩ := hv.inv_fn
          cases l' with | mk l' =>
          cases m' with | mk m' =>
          cases h1
          cases h2 with | cons h3 h4 =>
          cases h4
          obtain ⟨b, s, N, hb, rfl⟩ := h3.inv_ptr
          obtain ⟨c, e, fz, q1, q2, q3, q4, q5, q6⟩ := hr.obj _ _ _ _ _ hb hob
          obtain ⟨u, h5, h6⟩ := q5 0 m (by omega) hm
          have hs0 := q6 rfl
          subst hs0
          exact ⟨b, u, rfl, hr.blk _ _ _ _ hb, cell_of_blk q1 h5, h6⟩
        split at h
        · rename_i id'
          replace h := objK_ok h; obtain ⟨ob2, hob2, h⟩ := h
          split at h
          · rename_i kt' c l
            rw [lenK_eq] at h
            replace h := boolC_er h; obtain ⟨hlen, h⟩ := h
            replace h := boolC_er h; obtain ⟨hfine, h⟩ := h
            replace h := mapK_ok (S := fun (p : AE) v => v = p.k) (fun p k q h => ⟨_, rfl, h⟩) h; obtain ⟨ks, h1, h⟩ := h
            have hks : ks = l.map (·.k) := by
              clear h hlen hfine hob2
              induction h1 with
              | nil => rfl
              | cons e _ ih => rw [e, ih]; rfl
            refine ⟨ks, h, fun kt w0 ρ w hkt hr v hv ns hns => ?_⟩
            obtain ⟨Bm, u, e1, e2, e3, e4⟩ := box w0 ρ w hr v hv
            obtain ⟨b, sh, N, es, hb, rfl, hes, hF, _⟩ := hr.map_at hob2 e4
            exact ⟨Bm, some b, e1, e2, e3, keysAre_of hkt hes hF hfine (Nat.le_of_ble_eq_true hlen) (by rw [← hks, hns])⟩
          · cases h
        · refine ⟨[], h, fun kt w0 ρ w hkt hr v hv ns hns => ?_⟩
          obtain ⟨Bm, u, e1, e2, e3, e4⟩ := box w0 ρ w hr v hv
          rw [e4.inv_lit] at e3
          refine ⟨Bm, none, e1, e2, e3, .inl ⟨rfl, ?_⟩⟩
          cases ns with
          | nil => rfl
          | cons _ _ => cases hns
        · cases h
      · cases h
  · cases h

theorem litsK_ok {β : Type} {l : List Int} {k : List AV → R β} {q : β} (h : litsK l k = .ok q) : k (l.map fun n => AV.lit (.int .i64 n)) = .ok q := by
  unfold litsK at h
  obtain ⟨l', h1, h2⟩ := mapK_ok (S := fun (n : Int) a => a = AV.lit (.int .i64 n)) (fun a k q h => ⟨_, rfl, h⟩) h
  have : l' = l.map fun n => AV.lit (.int .i64 n) := by
    clear h h2
    induction h1 with
    | nil => rfl
    | cons e _ ih => rw [e, ih]; rfl
  rw [← this]; exact h2

theorem minOf_isort {x : Int} {l ns : List Int} (h : isort ns = x :: l) {zs : List Int} (hp : zs.Perm ns) : Lib.minOf zs = x := by
  have hmem : ∀ z ∈ zs, x ≤ z := by
    intro z hz
    have : z ∈ isort ns := (isort_perm ns).mem_iff.2 (hp.mem_iff.1 hz)
    have hs := isort_sorted ns
    rw [h] at this hs
    rw [List.pairwise_cons] at hs
    rcases List.mem_cons.1 this with rfl | hz
    · exact Int.le_refl _
    · exact hs.1 z hz
  have hx : x ∈ zs := hp.mem_iff.2 ((isort_perm ns).mem_iff.1 (by rw [h]; simp))
  have fold : ∀ (l : List Int) (a : Int), (∀ z ∈ l, x ≤ z) → x ≤ a → (x = a ∨ x ∈ l) → l.foldl min a = x := by
    intro l
    induction l with
    | nil => intro a _ _ h; rcases h with h | h; exact h.symm; cases h
    | cons z l ih =>
      intro a h1 h2 h3
      have hz := h1 z (by simp)
      refine ih (min a z) (fun y hy => h1 y (by simp [hy])) (by omega) ?_
      rcases h3 with h3 | h3
      · left; omega
      · rcases List.mem_cons.1 h3 with h3 | h3
        · left; omega
        · exact .inr h3
  unfold Lib.minOf
  cases zs with
  | nil => cases hx
  | cons z zs =>
    refine fold _ _ hmem (hmem _ (by simp)) (.inr hx)

noncomputable def hkS (E : Env) (H : AH) (args : List AV) : R (AV × AH) :=
  match args with
  | [f] => keysK E f H fun ks => sortI ks fun l => litsK l fun vs => lenK vs fun n =>
      natC (.ok (.lit (.slice none 0 0), H)) (fun _ => writeK .e 0 vs fun t => newK H (.cells n t false) fun id H' => .ok (.sl id 0 1 n n false, H')) n
  | _ => .er [152]
noncomputable def hkC (E : Env) (H : AH) (args : List AV) : R (AV × AH) :=
  match args with
  | [f] => keysK E f H fun ks => sortI ks fun l => litsK l fun vs => lenK vs fun n =>
      natC (.ok (.lit (.slice none 0 0), H)) (fun _ => mapK (fun n k => k (Value.int .i64 n)) l fun vs => newK H (.bag vs) fun id H' => .ok (.sl id 0 1 n n false, H')) n
  | _ => .er [153]
noncomputable def hkM (H : AH) (args : List AV) : R (AV × AH) :=
  match args with
  | [.sl id 0 1 n _ _] => objK H id fun o => match o with
    | .bag l => lenK l fun m => boolC (.er [154]) (sortI l fun ns => match ns with | x :: _ => .ok (.lit (.int .i64 x), H) | [] => .er [155]) (Nat.beq m n)
    | _ => .er [156]
  | _ => .er [157]
noncomputable def hkT (H : AH) (args : List AV) : R (AV × AH) :=
  match args with
  | [] => .ok (.lit (.bool true), H)
  | _ => .er [202]
/-- **CALLS THAT ARE NOT LOOKED INTO**, out of contracts. -/
theorem hooks_ok (EO : EnvOK P E) {hk : List (Nat × Nat)} (hh : ∀ f n, E.hk.get f = some n → (f, n) ∈ hk) {kt T : TypeId} (hkt : P.underlying kt = some (.int .i64))
    (hS : ∀ f g, (f, 2) ∈ hk → (g, 1) ∈ hk → SortedC P kt T f g) (hC : ∀ f g, (f, 3) ∈ hk → (g, 1) ∈ hk → CollectC P kt T f g) (hM : ∀ f, (f, 4) ∈ hk → MinC P f) (hT : ∀ f, (f, 5) ∈ hk → TrueC P w0 f) (h4 : ∀ f n, (f, n) ∈ hk → n ≤ 5)
    (hent : ∀ f n, (f, n) ∈ hk → 2 ≤ n → ∀ args w, (callFunc f args).run P w = .ok (.enter f args) w) : HkOK P E w0 := by
  intro f n args H v H' hf h
  have hfm := hh _ _ hf
  have hn4 := h4 _ _ hfm
  have henter := hent _ _ hfm (by omega)
  -- a row of the library's own
  have adopt : ∀ {ρ : Ren} {w w' : World} {o : AO} {H1 : AH} {g cap : Nat} {cur : Array Value} {e : TypeId}, HR E w0 ρ H w → Below w.heap.size w w' → w.heap.size ≤ g → w'.heap[g]? = some (.cells cur e (0, 0)) → Added H o H1 →
      OR E (ρ.add H.next (g, 0, cur.size)) o 0 cur.size (some (.cells cur e (0, 0))) → HR E w0 (ρ.add H.next (g, 0, cur.size)) H1 w' ∧ Later ρ H (ρ.add H.next (g, 0, cur.size)) H1 := by
    intro ρ w w' o H1 g cap cur e hr hb hg hgl hA hor
    exact (hr.below hb).adopt (B := w.heap.size) (fun id b s N hi => hr.blk id b s N hi) hg (blk_lt hgl) (Nat.le_trans hr.chg.size hg) hA (by rw [hgl]; exact hor)
  have hn : n = 0 ∨ n = 1 ∨ n = 2 ∨ n = 3 := by omega
  rcases hn with rfl | rfl | rfl | rfl
  · -- Sorted
    replace h : hkS E H args = .ok (v, H') := h
    unfold hkS at h
    split at h
    · rename_i fv
      replace h := keysK_ok (P := P) hh h; obtain ⟨g, id, hg, rfl, ks, h, hkeys⟩ := h
      replace h := sortI_ok h; obtain ⟨ns, hns, h⟩ := h
      replace h := litsK_ok h
      rw [lenK_eq, List.length_map] at h
      intro ρ w args' hr hargs
      obtain ⟨av, rfl, ha⟩ : ∃ a : Value, args' = #[a] ∧ Rl ρ (.fn (.func g) [] [.ptr id 0]) a := by
        cases args' with | mk l =>
        cases hargs with | cons h1 h2 => cases h2; exact ⟨_, rfl, h1⟩
      obtain ⟨Bm, m, rfl, hBm, hcell, hka⟩ := hkeys kt w0 ρ w hkt hr av ha ns hns
      refine ⟨henter _ _, (hS f g hfm hg w Bm m ns hBm hcell hka).mono ?_⟩
      rintro e w' ⟨u, ss, rfl, hperm, hrow, hnil, hb⟩
      have hsort := mergeSort_isort hperm
      have hlen : ss.length = (isort ns).length := by rw [hperm.length_eq, (isort_perm ns).length_eq]
      cases hl : (isort ns).length with
      | zero =>
        rw [hl] at h
        cases h
        have : ss = [] := List.eq_nil_of_length_eq_zero (by omega)
        have hu := hnil.2 this
        subst hu
        exact ⟨_, ρ, rfl, .lit _, hr.below hb, Later.refl _ _⟩
      | succ n' =>
        rw [hl, natC_succ] at h
        replace h := writeK_ok h; obtain ⟨t, ht, h⟩ := h
        replace h := newK_ok h; obtain ⟨H1, hA, h⟩ := h
        cases h
        rcases hrow.2 with ⟨e1, e2⟩ | ⟨gb, cap, cur, rfl, hgb, hgl, r1, r2, r3, r4⟩
        · omega
        · have hxs : cur.toList.take ss.length = (isort ns).map encZ := by rw [← hsort, ← r4, Nat.mul_one]
          have hor : OR E (ρ.add H.next (gb, 0, cur.size)) (.cells (n' + 1) t false) 0 cur.size (some (.cells cur T (0, 0))) := by
            refine ⟨cur, T, (0, 0), rfl, rfl, by rw [r3]; omega, fun _ => rfl, fun i av hi hav => ?_, fun _ => rfl⟩
            rw [ht, if_pos (by rw [List.length_map]; omega), Nat.sub_zero, List.getElem?_map] at hav
            cases hx : (isort ns)[i]? with
            | none => rw [hx] at hav; cases hav
            | some x =>
              rw [hx] at hav
              simp only [Option.map_some, Option.some.injEq] at hav
              subst hav
              refine ⟨_, ?_, .lit _⟩
              have : (cur.toList.take ss.length)[i]? = some (encZ x) := by rw [hxs, List.getElem?_map, hx]; rfl
              rw [List.getElem?_take, if_pos (by omega), Array.getElem?_toList] at this
              rw [Nat.zero_add]; exact this
          obtain ⟨k1, k2⟩ := adopt (cap := cap) hr hb hgb hgl hA hor
          refine ⟨_, _, rfl, ?_, k1, k2⟩
          rw [hlen, hl]
          exact .sl (s := 0) (Ren.add_self _ _ _) (fun h => by cases h) (by omega) (Nat.le_refl _) (by rw [r3]; simp) r2
    · cases h
  · -- Collect
    replace h : hkC E H args = .ok (v, H') := h
    unfold hkC at h
    split at h
    · rename_i fv
      replace h := keysK_ok (P := P) hh h; obtain ⟨g, id, hg, rfl, ks, h, hkeys⟩ := h
      replace h := sortI_ok h; obtain ⟨ns, hns, h⟩ := h
      replace h := litsK_ok h
      rw [lenK_eq, List.length_map] at h
      intro ρ w args' hr hargs
      obtain ⟨av, rfl, ha⟩ : ∃ a : Value, args' = #[a] ∧ Rl ρ (.fn (.func g) [] [.ptr id 0]) a := by
        cases args' with | mk l =>
        cases hargs with | cons h1 h2 => cases h2; exact ⟨_, rfl, h1⟩
      obtain ⟨Bm, m, rfl, hBm, hcell, hka⟩ := hkeys kt w0 ρ w hkt hr av ha ns hns
      refine ⟨henter _ _, (hC f g hfm hg w Bm m ns hBm hcell hka).mono ?_⟩
      rintro e w' ⟨u, ss, rfl, hperm, hrow, hnil, hb⟩
      have hlen : ss.length = (isort ns).length := by rw [hperm.length_eq, (isort_perm ns).length_eq]
      cases hl : (isort ns).length with
      | zero =>
        rw [hl] at h
        cases h
        have : ss = [] := List.eq_nil_of_length_eq_zero (by omega)
        have hu := hnil.2 this
        subst hu
        exact ⟨_, ρ, rfl, .lit _, hr.below hb, Later.refl _ _⟩
      | succ n' =>
        rw [hl, natC_succ] at h
        obtain ⟨vs, hvs, h⟩ := mapK_ok (S := fun (n : Int) v => v = Value.int .i64 n) (fun a k q h => ⟨_, rfl, h⟩) h
        have hvs' : vs = (isort ns).map encZ := by
          clear h hl hlen
          generalize isort ns = xs at hvs
          clear h
          induction hvs with
          | nil => rfl
          | cons e _ ih => rw [e, ih]; rfl
        replace h := newK_ok h; obtain ⟨H1, hA, h⟩ := h
        cases h
        rcases hrow.2 with ⟨e1, e2⟩ | ⟨gb, cap, cur, rfl, hgb, hgl, r1, r2, r3, r4⟩
        · omega
        · have hvl : vs.length = ss.length := by rw [hvs', List.length_map, hlen]
          have hor : OR E (ρ.add H.next (gb, 0, cur.size)) (.bag vs) 0 cur.size (some (.cells cur T (0, 0))) := by
            refine ⟨cur, T, rfl, rfl, by rw [r3]; omega, ?_⟩
            rw [List.drop_zero, hvl]
            rw [Nat.mul_one] at r4
            rw [r4, hvs']
            exact ((hperm.trans (isort_perm ns).symm).map _)
          obtain ⟨k1, k2⟩ := adopt (cap := cap) hr hb hgb hgl hA hor
          refine ⟨_, _, rfl, ?_, k1, k2⟩
          rw [hlen, hl]
          exact .sl (s := 0) (Ren.add_self _ _ _) (fun h => by cases h) (by omega) (Nat.le_refl _) (by rw [r3]; simp) r2
    · cases h
  · -- Min
    replace h : hkM H args = .ok (v, H') := h
    unfold hkM at h
    split at h
    · rename_i id n cap ex
      replace h := objK_ok h; obtain ⟨ob, hob, h⟩ := h
      split at h
      · rename_i l
        rw [lenK_eq] at h
        replace h := boolC_er h; obtain ⟨hln, h⟩ := h
        replace h := sortI_ok h; obtain ⟨ns, hns, h⟩ := h
        have hln' : l.length = n := by simpa using hln
        split at h
        · rename_i x tl hso
          cases h
          intro ρ w args' hr hargs
          obtain ⟨av, rfl, ha⟩ : ∃ a : Value, args' = #[a] ∧ Rl ρ (.sl id 0 1 n cap ex) a := by
            cases args' with | mk l =>
            cases hargs with | cons h1 h2 => cases h2; exact ⟨_, rfl, h1⟩
          obtain ⟨b, s, N, c, hb, k1, k2, k3, k4, k5, rfl⟩ := ha.inv_sl
          obtain ⟨cc, e, q1, q2, q3, q4⟩ := hr.obj _ _ _ _ _ hb hob
          rw [hns] at q4
          have hmem : ∀ y ∈ (cc.toList.drop s).take l.length, ∃ z : Int, y = encZ z := by
            intro y hy
            obtain ⟨z, _, hz⟩ := List.mem_map.1 (q4.mem_iff.1 (by rw [hns] at hy; exact hy))
            exact ⟨z, hz.symm⟩
          have hcells : ∃ zs : List Int, (cc.toList.drop s).take l.length = zs.map encZ := by
            clear q4
            generalize (cc.toList.drop s).take l.length = xs at hmem
            induction xs with
            | nil => exact ⟨[], rfl⟩
            | cons y xs ih =>
              obtain ⟨z, hz⟩ := hmem y (by simp)
              obtain ⟨zs, hzs⟩ := ih fun y hy => hmem y (by simp [hy])
              exact ⟨z :: zs, by rw [hz, hzs]; rfl⟩
          obtain ⟨zs, hzs⟩ := hcells
          have hperm : zs.Perm ns := by
            have h1 : (zs.map encZ).Perm (ns.map encZ) := by rw [← hzs, hns]; exact q4
            have h2 := h1.map (fun v => match v with | .int _ n => n | _ => 0)
            rw [List.map_map, List.map_map] at h2
            have e9 : ((fun v => match v with | .int _ n => n | _ => 0) ∘ encZ) = (fun z => z : Int → Int) := rfl
            rw [e9, List.map_id', List.map_id'] at h2
            exact h2
          have hzl : zs.length = n := by
            have h1 := congrArg List.length hzs
            rw [List.length_map, List.length_take, List.length_drop] at h1
            have hcs : cc.toList.length = cc.size := Array.length_toList
            omega
          have hpos : 0 < n := by
            rw [← hzl, hperm.length_eq, ← (isort_perm ns).length_eq, hso]; simp
          refine ⟨henter _ _, (hM f hfm b (s + 0) n c zs w hpos (by omega) (by unfold maxLen at k5; omega) fun j hj => ?_).mono ?_⟩
          · have hat : ((cc.toList.drop s).take l.length)[j]? = some (encZ (zs.getD j 0)) := by
              rw [hzs, List.getElem?_map, List.getD_eq_getElem?_getD, List.getElem?_eq_getElem hj]; rfl
            rw [List.getElem?_take, if_pos (by omega), List.getElem?_drop, Array.getElem?_toList] at hat
            exact cell_of_blk q1 (by rw [Nat.add_zero]; exact hat)
          · rintro e2 w' ⟨rfl, rfl⟩
            rw [List.take_of_length_le (by omega), minOf_isort hso hperm]
            exact ⟨_, ρ, rfl, .lit _, hr, Later.refl _ _⟩
        · cases h
      · cases h
    · cases h
  · -- a closed call
    replace h : hkT H args = .ok (v, H') := h
    unfold hkT at h
    split at h
    · cases h
      intro ρ w args' hr hargs
      have e : args' = #[] := by
        cases args' with | mk l =>
        cases hargs; rfl
      subst e
      refine ⟨henter _ _, (hT f hfm w hr.chg).mono ?_⟩
      rintro e w' ⟨rfl, hc⟩
      exact ⟨_, ρ, rfl, .lit _, hr.later hc, Later.refl _ _⟩
    · cases h
end
end Go.Proofs.YtclljjfkaljdnaaGreatDoor
