/- Laws over whatever program: frames by sets of blocks, maps by lists of pairs of values. No program in sight. -/
import Derived.WalkKit
import Derived.WalkSpells
import Derived.WalkLawsBesides
import Derived.Maps.Own
import Derived.Maps.OwnOps
import Derived.Lib.Hide
import Derived.Deep.AppendLies
import Derived.Maps.AppendAt
import Derived.Laws.AppendOwnNone
import Derived.Deep.QuietTactic
import Derived.BigQuiet
import Derived.SliceStrings
import Derived.Deep.Slices
namespace Go.Proofs.YtclljjfkaljdnaaGreatDoor
open Go.RowKit

/-- w' is w but for the blocks of S, and new blocks. -/
structure Chg (S : Nat → Prop) (w w' : World) : Prop where
  os : w'.os = w.os
  tape : w'.tape = w.tape
  output : w'.output = w.output
  size : w.heap.size ≤ w'.heap.size
  block : ∀ k, k < w.heap.size → ¬ S k → w'.heap[k]? = w.heap[k]?

namespace Chg
variable {S T : Nat → Prop} {w w1 w' : World}
theorem refl (S : Nat → Prop) (w : World) : Chg S w w := ⟨rfl, rfl, rfl, Nat.le_refl _, fun _ _ _ => rfl⟩
theorem trans (h : Chg S w w1) (h2 : Chg S w1 w') : Chg S w w' :=
  ⟨h2.os.trans h.os, h2.tape.trans h.tape, h2.output.trans h.output, Nat.le_trans h.size h2.size,
   fun k hk hs => (h2.block k (Nat.lt_of_lt_of_le hk h.size) hs).trans (h.block k hk hs)⟩
theorem mono (h : Chg S w w') (hm : ∀ k, k < w.heap.size → S k → T k) : Chg T w w' :=
  ⟨h.os, h.tape, h.output, h.size, fun k hk hs => h.block k hk (fun e => hs (hm k hk e))⟩
/-- The second step may write what the first one made. -/
theorem then' (h : Chg S w w1) (h2 : Chg T w1 w') (hm : ∀ k, k < w.heap.size → T k → S k) : Chg S w w' :=
  ⟨h2.os.trans h.os, h2.tape.trans h.tape, h2.output.trans h.output, Nat.le_trans h.size h2.size,
   fun k hk hs => (h2.block k (Nat.lt_of_lt_of_le hk h.size) (fun e => hs (hm k hk e))).trans (h.block k hk hs)⟩
theorem alloc (h : Chg S w w1) (o : Obj) : Chg S w (w1.alloc o) :=
  h.trans ⟨rfl, rfl, rfl, by simp, fun k hk _ => heap_alloc_old _ _ hk⟩
theorem drew (h : Chg S w w1) : Chg S w w1.drew := ⟨h.os, h.tape, h.output, h.size, h.block⟩
theorem drewN (h : Chg S w w1) (n : Nat) : Chg S w (w1.drewN n) := ⟨h.os, h.tape, h.output, h.size, h.block⟩
theorem setCell (h : Chg S w w1) {a : Addr} (ha : a.block < w.heap.size → S a.block) (v : Value) : Chg S w (w1.setCell a v) := by
  refine h.then' (T := fun k => k = a.block) ⟨rfl, rfl, rfl, by simp [World.setCell], fun k _ hs => Below.heap_setCell _ _ _ _ hs⟩ ?_
  rintro k hk rfl; exact ha hk
theorem setBlock (h : Chg S w w1) {b : Nat} (ha : b < w.heap.size → S b) (o : Obj) : Chg S w (ChangeMaps.setBlock w1 b o) := by
  refine h.then' (T := fun k => k = b) ⟨rfl, rfl, rfl, by simp [ChangeMaps.setBlock], fun k _ hs => ?_⟩ ?_
  · simp only [ChangeMaps.setBlock, Array.getElem?_setIfInBounds]
    rw [if_neg (fun e => hs e.symm)]
  · rintro k hk rfl; exact ha hk
theorem grown (h : Chg S w w1) {row : Option Nat} (hg : w1.grownBy w' row) (ha : ∀ k, row = some k → k < w.heap.size → S k) : Chg S w w' := by
  refine h.then' (T := fun k => row = some k) ⟨hg.os, hg.tape, hg.output, hg.size, fun k hk hs => hg.block k hk (fun e => hs e.symm)⟩ ?_
  intro k hk e; exact ha k e hk
theorem of_below {B : Nat} (h : Below B w w') (hB : ∀ k, k < w.heap.size → B ≤ k → S k) : Chg S w w' :=
  ⟨h.os, h.tape, h.output, h.size, fun k hk hs => h.block k (Nat.lt_of_not_le (fun e => hs (hB k hk e)))⟩
theorem below (h : Chg (fun _ => False) w w') : Below w.heap.size w w' :=
  ⟨h.os, h.tape, h.output, h.size, fun k hk => h.block k hk (fun e => e)⟩
theorem cell (h : Chg S w w') {a : Addr} {v : Value} (hc : w.cell? a = some v) (hs : ¬ S a.block) : w'.cell? a = some v :=
  (World.cell?_of_block (h.block a.block (World.block_lt_of_cell? w a hc) hs)).trans hc
theorem frozen (h : Chg S w w') {a : Addr} (hlt : a.block < w.heap.size) (hs : ¬ S a.block) : w'.frozen? a = w.frozen? a :=
  World.frozen?_of_block (h.block a.block hlt hs)
theorem blk (h : Chg S w w') {b : Nat} {o : Obj} (hb : w.heap[b]? = some o) (hs : ¬ S b) : w'.heap[b]? = some o :=
  (h.block b (Array.getElem?_eq_some_iff.1 hb).1 hs).trans hb
end Chg

theorem blk_lt {w : World} {b : Nat} {o : Obj} (h : w.heap[b]? = some o) : b < w.heap.size := (Array.getElem?_eq_some_iff.1 h).1
theorem blk_alloc_new (w : World) (o : Obj) : (w.alloc o).heap[w.heap.size]? = some o := heap_alloc_new w o
theorem blk_alloc {w : World} {b : Nat} {o : Obj} (h : w.heap[b]? = some o) (o' : Obj) : (w.alloc o').heap[b]? = some o :=
  (heap_alloc_old _ _ (blk_lt h)).trans h
theorem cell_of_blk {w : World} {b i : Nat} {cs : Array Value} {t : TypeId} {fr : Nat × Nat} (h : w.heap[b]? = some (.cells cs t fr)) {v : Value} (hv : cs[i]? = some v) :
    w.cell? ⟨b, i, none⟩ = some v := by rw [cell_of_row w b i cs t fr h]; exact hv
theorem frozen_of_blk {w : World} {b i : Nat} {cs : Array Value} {t : TypeId} (h : w.heap[b]? = some (.cells cs t (0, 0))) :
    w.frozen? ⟨b, i, none⟩ = false := by simp [World.frozen?, h]
theorem blk_setCell {w : World} {b i : Nat} {cs : Array Value} {t : TypeId} {fr : Nat × Nat} (h : w.heap[b]? = some (.cells cs t fr)) (v : Value) :
    (w.setCell ⟨b, i, none⟩ v).heap[b]? = some (.cells (cs.setIfInBounds i v) t fr) := by
  simp [World.setCell, Array.getElem?_modify, h]
theorem chg_setCell (w : World) (b i : Nat) (v : Value) : Chg (fun k => k = b) w (w.setCell ⟨b, i, none⟩ v) := (Chg.refl (fun k => k = b) w).setCell (fun _ => rfl) _
theorem chg_alloc (S : Nat → Prop) (w : World) (o : Obj) : Chg S w (w.alloc o) := (Chg.refl S w).alloc o
theorem blk_setCell_other {w : World} {b : Nat} {a : Addr} {o : Obj} (h : w.heap[b]? = some o) (hne : b ≠ a.block) (v : Value) :
    (w.setCell a v).heap[b]? = some o := (Below.heap_setCell _ _ _ _ hne).trans h

theorem beq_bytes (a b : ByteArray) : (a == b) = true ↔ a = b := by
  obtain ⟨⟨x⟩⟩ := a
  obtain ⟨⟨y⟩⟩ := b
  show ((⟨x⟩ : Array UInt8) == ⟨y⟩) = true ↔ _
  simp
/-- The machine's '==' on strings, as the walk writes it. -/
theorem toList_beq (a b : ByteArray) : (a.toList == b.toList) = decide (a = b) := by
  rw [← beq_toListBytes, Bool.eq_iff_iff, beq_bytes, decide_eq_true_iff]

theorem quiet_left {P : Program} {f : FuncId} {args : Array Value} {w : World} {n : Nat} {v : Value}
    (h : Calls P f args (w.drewN n) fun e w' => e = .returned v ∧ w.drewN n = w') : Calls P f args (w.drewN n) fun e w'' => e = .returned v ∧ ∃ m, w'' = w.drewN m :=
  h.mono fun _ _ ⟨he, hm⟩ => ⟨he, n, hm.symm⟩
theorem quiet_add {P : Program} {f : FuncId} {args : Array Value} {w : World} {n : Nat} {v : Value}
    (h : Calls P f args (w.drewN n) fun e w' => e = .returned v ∧ ∃ m, w' = (w.drewN n).drewN m) : Calls P f args (w.drewN n) fun e w'' => e = .returned v ∧ ∃ m, w'' = w.drewN m :=
  h.mono fun _ _ ⟨he, m, hm⟩ => ⟨he, n + m, by rw [hm, World.drewN_drewN]⟩
theorem chg_drewN (S : Nat → Prop) (w : World) (n : Nat) : Chg S w (w.drewN n) := (Chg.refl S w).drewN n

/-! ### slices that are read -/
/-- v is a slice of n elements of so many cells, all of which read; its array lies in G. -/
def Rd (w : World) (v : Value) (size n : Nat) (xs : List Value) (G : Nat → Prop) : Prop :=
  xs.length = n * size ∧ n ≤ maxLen ∧ ∃ ad cap, v = .slice ad n cap ∧ n ≤ cap ∧ cap ≤ maxLen ∧ (ad = none → n = 0 ∧ cap = 0) ∧ (n = 0 ∨ ∃ b off, ad = some ⟨b, off, none⟩ ∧ G b ∧ ∀ j u, xs[j]? = some u → w.cell? ⟨b, off + j, none⟩ = some u)

theorem Rd.chg {w w' : World} {v : Value} {size n : Nat} {xs : List Value} {G S : Nat → Prop} (h : Rd w v size n xs G) (hc : Chg S w w') (hs : ∀ b, G b → ¬ S b) : Rd w' v size n xs G := by
  obtain ⟨h1, h2, ad, cap, h3, h4, h5, h6, h7⟩ := h
  refine ⟨h1, h2, ad, cap, h3, h4, h5, h6, ?_⟩
  rcases h7 with h7 | ⟨b, off, h8, h9, h10⟩
  · exact .inl h7
  · exact .inr ⟨b, off, h8, h9, fun j u hu => hc.cell (h10 j u hu) (hs b h9)⟩
theorem Rd.mono {w : World} {v : Value} {size n : Nat} {xs : List Value} {G G' : Nat → Prop} (h : Rd w v size n xs G) (hg : ∀ b, G b → G' b) : Rd w v size n xs G' := by
  obtain ⟨h1, h2, ad, cap, h3, h4, h5, h6, h7⟩ := h
  refine ⟨h1, h2, ad, cap, h3, h4, h5, h6, ?_⟩
  rcases h7 with h7 | ⟨b, off, h8, h9, h10⟩
  · exact .inl h7
  · exact .inr ⟨b, off, h8, hg b h9, h10⟩
theorem Rd.of_owns {w : World} {base : Nat} {e : TypeId} {size : Nat} {v : Value} {n : Nat} {xs : List Value} (h : w.ownsRow base e size v n xs) : Rd w v size n xs (fun b => v.ownBlock = some b) := by
  obtain ⟨h1, h2⟩ := h
  rcases h2 with ⟨rfl, rfl⟩ | ⟨g, cap, cur, rfl, hb, hg, h3, h4, h5, h6⟩
  · exact ⟨h1, Nat.zero_le _, none, 0, rfl, Nat.le_refl _, Nat.zero_le _, fun _ => ⟨rfl, rfl⟩, .inl rfl⟩
  · refine ⟨h1, Nat.le_trans h3 h4, _, cap, rfl, h3, h4, (fun e => by cases e), .inr ⟨g, 0, rfl, rfl, fun j u hu => ?_⟩⟩
    rw [Nat.zero_add]
    refine cell_of_blk hg ?_
    rw [← h6, List.getElem?_take] at hu
    split at hu
    · simpa using hu
    · cases hu

theorem owns_base {w : World} {base base' : Nat} {e : TypeId} {size : Nat} {v : Value} {n : Nat} {xs : List Value} (h : w.ownsRow base e size v n xs) (hb : base' ≤ base) : w.ownsRow base' e size v n xs := by
  refine ⟨h.1, ?_⟩
  rcases h.2 with hn | ⟨g, cap, cur, hv, hg, r⟩
  · exact .inl hn
  · exact .inr ⟨g, cap, cur, hv, Nat.le_trans hb hg, r⟩

/-! ### maps -/
open Classical in
/-- The first entry of a key, as the machine finds it. -/
noncomputable def findV (k : Value) : List MapEntry → Nat → Option (Nat × Value)
  | [], _ => none
  | e :: es, i => if e.key = k then some (i, e.val) else findV k es (i + 1)

/-- What a key type's values must be for the laws below. -/
structure KeyOK (P : Program) (kt : TypeId) (K : Value → Prop) : Prop where
  check : ∀ e v w, K v → (Instr.checkKey e 10000 kt v).run P w = .ok () w
  find : ∀ k es w, K k → (∀ e ∈ es, K e.key) → (Instr.findKey kt k es).run P w = .ok (findV k es 0) w
  same : ∀ v, K v → Instr.sameBits 10000 v v = true

theorem findNow_eq {d : TypeDesc} {k : Value} : ∀ (es : List MapEntry) (i : Nat),
    (∀ e ∈ es, ∃ b, Instr.sameNow d k e.key = some b ∧ (b = true ↔ e.key = k)) → Instr.findNow d k es i = some (findV k es i)
  | [], _, _ => rfl
  | e :: es, i, h => by
    obtain ⟨b, hb, hbk⟩ := h e (by simp)
    unfold Instr.findNow findV
    rw [hb]
    cases b
    · have hne : ¬ e.key = k := fun e => by simpa using hbk.2 e
      simp only [if_neg hne]
      exact findNow_eq es (i + 1) (fun e he => h e (by simp [he]))
    · rw [if_pos (hbk.1 rfl)]

theorem findKey_now {P : Program} {kt : TypeId} {d : TypeDesc} {k : Value} {es : List MapEntry} {w : World} (hd : P.underlying kt = some d)
    (h : ∀ e ∈ es, ∃ b, Instr.sameNow d k e.key = some b ∧ (b = true ↔ e.key = k)) : (Instr.findKey kt k es).run P w = .ok (findV k es 0) w := by
  unfold Instr.findKey
  simp only [Sem.run_bind, run_underlying hd, Result.andThen_ok, findNow_eq es 0 h, Sem.run_pure]

theorem keyOK_int {P : Program} {kt : TypeId} {q : IntKind} (hd : P.underlying kt = some (.int q)) : KeyOK P kt (fun v => ∃ n, v = .int q n) where
  check := by rintro e _ w ⟨n, rfl⟩; unfold Instr.checkKey; simp [run_underlying hd]
  find := by
    rintro _ es w ⟨n, rfl⟩ h
    refine findKey_now hd fun e he => ?_
    obtain ⟨m, hm⟩ := h e he
    rw [hm]
    refine ⟨n == m, by simp [Instr.sameNow], ?_⟩
    simp only [beq_iff_eq, Value.int.injEq, true_and]
    exact ⟨fun e => e.symm, fun e => e.symm⟩
  same := by rintro _ ⟨n, rfl⟩; simp [Instr.sameBits]

theorem keyOK_string {P : Program} {kt : TypeId} (hd : P.underlying kt = some .string) : KeyOK P kt (fun v => ∃ s, v = .string s) where
  check := by rintro e _ w ⟨n, rfl⟩; unfold Instr.checkKey; simp [run_underlying hd]
  find := by
    rintro _ es w ⟨n, rfl⟩ h
    refine findKey_now hd fun e he => ?_
    obtain ⟨m, hm⟩ := h e he
    rw [hm]
    refine ⟨n == m, by simp [Instr.sameNow], ?_⟩
    simp only [beq_bytes, Value.string.injEq]
    exact ⟨fun e => e.symm, fun e => e.symm⟩
  same := by rintro _ ⟨n, rfl⟩; simp [Instr.sameBits, beq_bytes]

theorem findAsking_eq {P : Program} {kt : TypeId} {k : Value} {w : World} : ∀ (es : List MapEntry) (i : Nat),
    (∀ e ∈ es, ∃ b, (Op.equal kt k e.key).run P w = .ok b w ∧ (b = true ↔ e.key = k)) → (Instr.findAsking kt k es i).run P w = .ok (findV k es i) w
  | [], _, _ => by simp [Instr.findAsking, findV]
  | e :: es, i, h => by
    obtain ⟨b, hb, hbk⟩ := h e (by simp)
    unfold Instr.findAsking findV
    simp only [Sem.run_bind, hb, Result.andThen_ok]
    cases b
    · have hne : ¬ e.key = k := fun e => by simpa using hbk.2 e
      simp only [if_neg hne, Bool.false_eq_true, if_false]
      exact findAsking_eq es (i + 1) (fun e he => h e (by simp [he]))
    · simp [if_pos (hbk.1 rfl)]

/-- A struct or array key: by the machine's '=='. -/
theorem keyOK_asking {P : Program} {kt : TypeId} {d : TypeDesc} {K : Value → Prop} (hd : P.underlying kt = some d)
    (hnow : ∀ k v, K k → K v → Instr.sameNow d k v = none)
    (check : ∀ e v w, K v → (Instr.checkKey e 10000 kt v).run P w = .ok () w)
    (eq : ∀ k v w, K k → K v → ∃ b, (Op.equal kt k v).run P w = .ok b w ∧ (b = true ↔ v = k))
    (same : ∀ v, K v → Instr.sameBits 10000 v v = true) : KeyOK P kt K where
  check := check
  same := same
  find := by
    intro k es w hk h
    unfold Instr.findKey
    simp only [Sem.run_bind, run_underlying hd, Result.andThen_ok]
    cases es with
    | nil => simp [Instr.findNow, findV]
    | cons e es =>
      have : Instr.findNow d k (e :: es) 0 = none := by unfold Instr.findNow; rw [hnow k e.key hk (h e (by simp))]
      rw [this]
      exact findAsking_eq _ _ fun e he => eq k e.key w hk (h e he)

/-- Block b is a map with these pairs, in the order in which they came. -/
def MapAt (w : World) (b : Nat) (l : List (Value × Value)) : Prop :=
  ∃ es clock, w.heap[b]? = some (.map es clock) ∧ es.toList.map (fun e => (e.key, e.val)) = l ∧ (es.toList.map (·.born)).Nodup ∧ (∀ e ∈ es.toList, e.born < clock)

theorem MapAt.lt {w : World} {b : Nat} {l} (h : MapAt w b l) : b < w.heap.size := by obtain ⟨es, c, h, _⟩ := h; exact blk_lt h
theorem MapAt.chg {S : Nat → Prop} {w w' : World} {b : Nat} {l} (h : MapAt w b l) (hc : Chg S w w') (hs : ¬ S b) : MapAt w' b l := by
  obtain ⟨es, c, h, r⟩ := h; exact ⟨es, c, hc.blk h hs, r⟩
theorem mapAt_made (w : World) : MapAt (w.alloc (.map #[] 0)) w.heap.size [] := ⟨#[], 0, blk_alloc_new _ _, by simp, by simp, by simp⟩

open Classical in
noncomputable def lookV (k : Value) : List (Value × Value) → Option Value
  | [] => none
  | p :: l => if p.1 = k then some p.2 else lookV k l
open Classical in
/-- 'm[k] = v' on the pairs. -/
noncomputable def putV (k v : Value) : List (Value × Value) → List (Value × Value)
  | [] => [(k, v)]
  | p :: l => if p.1 = k then (k, v) :: l else p :: putV k v l
open Classical in
/-- 'delete(m, k)' on the pairs (the first of the key). -/
noncomputable def dropV (k : Value) : List (Value × Value) → List (Value × Value)
  | [] => []
  | p :: l => if p.1 = k then l else p :: dropV k l

theorem findV_look (k : Value) : ∀ (es : List MapEntry) (i : Nat), (findV k es i).map (·.2) = lookV k (es.map fun e => (e.key, e.val))
  | [], _ => rfl
  | e :: es, i => by
    simp only [findV, List.map_cons, lookV]
    split
    · rfl
    · exact findV_look k es (i + 1)

theorem findV_some (k : Value) : ∀ (es : List MapEntry) (i j : Nat) (v : Value), findV k es i = some (j, v) → i ≤ j ∧ ∃ e, es[j - i]? = some e ∧ e.key = k ∧ e.val = v
  | [], _, _, _, h => by simp [findV] at h
  | e :: es, i, j, v, h => by
    simp only [findV] at h
    split at h
    · rename_i hk
      simp only [Option.some.injEq, Prod.mk.injEq] at h
      obtain ⟨rfl, rfl⟩ := h
      exact ⟨Nat.le_refl _, e, by simp, hk, rfl⟩
    · obtain ⟨h1, e', h2, h3, h4⟩ := findV_some k es (i + 1) j v h
      refine ⟨by omega, e', ?_, h3, h4⟩
      have : j - i = (j - (i + 1)) + 1 := by omega
      rw [this]; simpa using h2

theorem findV_put (k v : Value) : ∀ (es : List MapEntry) (i : Nat), putV k v (es.map fun e => (e.key, e.val)) =
    match findV k es i with
    | some (j, _) => (es.modify (j - i) fun e => { e with key := k, val := v }).map fun e => (e.key, e.val)
    | none => (es.map fun e => (e.key, e.val)) ++ [(k, v)]
  | [], i => by simp [putV, findV]
  | e :: es, i => by
    simp only [List.map_cons, putV, findV]
    by_cases hk : e.key = k
    · simp [hk]
    · simp only [if_neg hk]
      have ih := findV_put k v es (i + 1)
      rw [ih]
      cases hf : findV k es (i + 1) with
      | none => simp
      | some jv =>
        obtain ⟨j, x⟩ := jv
        obtain ⟨h1, _⟩ := findV_some k es (i + 1) j x hf
        have : j - i = (j - (i + 1)) + 1 := by omega
        simp [this]

theorem findV_drop (k : Value) : ∀ (es : List MapEntry) (i : Nat), dropV k (es.map fun e => (e.key, e.val)) =
    match findV k es i with
    | some (j, _) => (es.eraseIdx (j - i)).map fun e => (e.key, e.val)
    | none => (es.map fun e => (e.key, e.val))
  | [], i => by simp [dropV, findV]
  | e :: es, i => by
    simp only [List.map_cons, dropV, findV]
    by_cases hk : e.key = k
    · simp [hk]
    · simp only [if_neg hk]
      have ih := findV_drop k es (i + 1)
      rw [ih]
      cases hf : findV k es (i + 1) with
      | none => simp
      | some jv =>
        obtain ⟨j, x⟩ := jv
        obtain ⟨h1, _⟩ := findV_some k es (i + 1) j x hf
        have : j - i = (j - (i + 1)) + 1 := by omega
        simp [this]

section
variable {P : Program} {kt et t : TypeId} {K : Value → Prop} {w : World} {b : Nat} {l : List (Value × Value)}

theorem keys_of_map {es : List MapEntry} (h : es.map (fun e => (e.key, e.val)) = l) (hk : ∀ p ∈ l, K p.1) : ∀ e ∈ es, K e.key := by
  intro e he
  exact hk (e.key, e.val) (by rw [← h]; exact List.mem_map.2 ⟨e, he, rfl⟩)

theorem run_lookup_at (KO : KeyOK P kt K) (ht : P.underlying t = some (.map kt et)) {z : Value} (hz : (zeroValue et).run P w = .ok z w) (hm : MapAt w b l) (hl : ∀ p ∈ l, K p.1) {k : Value} (hk : K k) (ok : Bool) :
    (Instr.lookup t (.map (some b)) k ok).run P w = .ok (if ok then .tuple #[(lookV k l).getD z, .bool (lookV k l).isSome] else (lookV k l).getD z) w := by
  obtain ⟨es, c, hb, he, _, _⟩ := hm
  have hf := KO.find k es.toList w hk (keys_of_map he hl)
  have hlk := findV_look k es.toList 0
  rw [he] at hlk
  rw [← hlk]
  unfold Instr.lookup
  cases hv : findV k es.toList 0 with
  | none =>
    cases ok <;> simp [run_underlying ht, Sem.run_bind, getObj, Sem.run, hb, KO.check _ _ _ hk, hf, hv, hz, Result.andThen]
  | some jv =>
    cases ok <;> simp [run_underlying ht, Sem.run_bind, getObj, Sem.run, hb, KO.check _ _ _ hk, hf, hv, Result.andThen]

theorem run_mapUpdate_at (KO : KeyOK P kt K) (ht : P.underlying t = some (.map kt et)) (hm : MapAt w b l) (hl : ∀ p ∈ l, K p.1) {k : Value} (hk : K k) (v : Value) :
    ∃ w', (Instr.mapUpdate t (.map (some b)) k v).run P w = .ok () w' ∧ MapAt w' b (putV k v l) ∧ Chg (· = b) w w' := by
  obtain ⟨es, c, hb, he, hnd, hbc⟩ := hm
  have hf := KO.find k es.toList w hk (keys_of_map he hl)
  have hp := findV_put k v es.toList 0
  rw [he] at hp
  unfold Instr.mapUpdate
  cases hv : findV k es.toList 0 with
  | none =>
    refine ⟨ChangeMaps.setBlock w b (.map (es.push { key := k, val := v, born := c }) (c + 1)), ?_, ?_, (Chg.refl (· = b) w).setBlock (fun _ => rfl) _⟩
    · simp [run_underlying ht, Sem.run_bind, getObj, setObj, Sem.run, hb, KO.check _ _ _ hk, hf, hv, Result.andThen, ChangeMaps.setBlock]
    · rw [hp, hv]
      refine ⟨_, _, ChangeMaps.heap_setBlock_same hb _, by simp [he], ?_, ?_⟩
      · simp only [Array.toList_push, List.map_append, List.map_cons, List.map_nil]
        rw [List.nodup_append]
        refine ⟨hnd, by simp, ?_⟩
        intro x hx y hy
        simp only [List.mem_singleton] at hy
        subst hy
        obtain ⟨e, he', rfl⟩ := List.mem_map.1 hx
        have := hbc e he'
        omega
      · intro e hx
        simp only [Array.toList_push, List.mem_append, List.mem_singleton] at hx
        rcases hx with hx | rfl
        · have := hbc e hx; omega
        · show c < c + 1; omega
  | some jv =>
    obtain ⟨j, x⟩ := jv
    obtain ⟨_, e, h2, h3, h4⟩ := findV_some k es.toList 0 j x hv
    simp only [Nat.sub_zero] at h2
    have hj : es[j]? = some e := by simpa using h2
    have hkey : (Option.map (fun x => x.key) es[j]?).getD k = k := by rw [hj]; exact h3
    refine ⟨ChangeMaps.setBlock w b (.map (es.modify j fun e => { e with key := k, val := v }) c), ?_, ?_, (Chg.refl (· = b) w).setBlock (fun _ => rfl) _⟩
    · simp [run_underlying ht, Sem.run_bind, getObj, setObj, Sem.run, hb, KO.check _ _ _ hk, hf, hv, hkey, Result.andThen, ChangeMaps.setBlock, Instr.keyThatStays, KO.same _ hk]
    · rw [hp, hv]
      have hmod : (es.modify j fun e => { e with key := k, val := v }).toList = es.toList.modify j (fun e => { e with key := k, val := v }) := by simp
      refine ⟨_, _, ChangeMaps.heap_setBlock_same hb _, by rw [hmod]; rfl, ?_, ?_⟩
      · rw [hmod]
        have : (es.toList.modify j fun e => { e with key := k, val := v }).map (·.born) = es.toList.map (·.born) := by
          apply List.ext_getElem?; intro i
          simp only [List.getElem?_map, List.getElem?_modify]
          split <;> simp [Option.map_map, Function.comp_def]
        rw [this]; exact hnd
      · intro e' hx
        rw [hmod] at hx
        obtain ⟨i, hi⟩ := List.getElem?_of_mem hx
        rw [List.getElem?_modify] at hi
        cases hh : es.toList[i]? with
        | none => simp [hh] at hi
        | some e0 =>
          have := hbc e0 (List.mem_of_getElem? hh)
          rw [hh] at hi
          split at hi
          · simp at hi; rw [← hi]; exact this
          · simp at hi; rw [← hi]; exact this

theorem run_delete_at (KO : KeyOK P kt K) (ht : P.underlying t = some (.map kt et)) (hm : MapAt w b l) (hl : ∀ p ∈ l, K p.1) {k : Value} (hk : K k) (kt' ty : TypeId) :
    ∃ w', (Builtin.delete_ #[t, kt'] ty #[.map (some b), k]).run P w = .ok (.tuple #[]) w' ∧ MapAt w' b (dropV k l) ∧ Chg (· = b) w w' := by
  obtain ⟨es, c, hb, he, hnd, hbc⟩ := hm
  have hf := KO.find k es.toList w hk (keys_of_map he hl)
  have hp := findV_drop k es.toList 0
  rw [he] at hp
  unfold Builtin.delete_
  cases hv : findV k es.toList 0 with
  | none =>
    refine ⟨ChangeMaps.setBlock w b (.map es c), ?_, ?_, (Chg.refl (· = b) w).setBlock (fun _ => rfl) _⟩
    · simp [run_underlying ht, Sem.run_bind, getObj, setObj, Sem.run, hb, KO.check _ _ _ hk, hf, hv, Result.andThen, ChangeMaps.setBlock]
    · rw [hp, hv]
      exact ⟨_, _, ChangeMaps.heap_setBlock_same hb _, he, hnd, hbc⟩
  | some jv =>
    obtain ⟨j, x⟩ := jv
    refine ⟨ChangeMaps.setBlock w b (.map (es.eraseIdxIfInBounds j) c), ?_, ?_, (Chg.refl (· = b) w).setBlock (fun _ => rfl) _⟩
    · simp [run_underlying ht, Sem.run_bind, getObj, setObj, Sem.run, hb, KO.check _ _ _ hk, hf, hv, Result.andThen, ChangeMaps.setBlock]
    · rw [hp, hv]
      have hmod : (es.eraseIdxIfInBounds j).toList = es.toList.eraseIdx j := by
        unfold Array.eraseIdxIfInBounds
        split
        · simp
        · rename_i hlt
          rw [List.eraseIdx_of_length_le (by simpa using hlt)]
      refine ⟨_, _, ChangeMaps.heap_setBlock_same hb _, by rw [hmod]; rfl, ?_, ?_⟩
      · rw [hmod]
        exact hnd.sublist ((List.eraseIdx_sublist _ _).map _)
      · intro e' hx
        rw [hmod] at hx
        exact hbc e' (List.mem_of_mem_eraseIdx hx)

theorem run_len_at (ht : P.underlying t = some (.map kt et)) (hm : MapAt w b l) (ty : TypeId) : (Builtin.len_ #[t] ty #[.map (some b)]).run P w = .ok (goInt l.length) w := by
  obtain ⟨es, c, hb, he, _, _⟩ := hm
  rw [← he]
  simp [Builtin.len_, run_underlying ht, getObj, Sem.run_bind, Sem.run, hb, Result.andThen]

variable {ops : Array Oper} {rest : List Oper} {o : Oper} {a : Act} {Q : Exit → Act → World → Prop}

/-- 'm[k]', 'v, ok := m[k]' at the operation. -/
theorem wp_lookup_at (hg : o.guard = none) (m x : Operand) (t : TypeId) (ok : Bool) (hop : o.op = Op.lookup t m x ok) (kt et : TypeId) (K : Value → Prop) (KO : KeyOK P kt K) (ht : P.underlying t = some (.map kt et))
    (z : Value) (hz : (zeroValue et).run P w = .ok z w) (b : Nat) (l : List (Value × Value)) (hb : a.eval m = .map (some b)) (hm : MapAt w b l) (hl : ∀ p ∈ l, K p.1) (k : Value) (hx : a.eval x = k) (hk : K k)
    (h : wpList P ops Q rest (a.put o.dst (if ok then .tuple #[(lookV k l).getD z, .bool (lookV k l).isSome] else (lookV k l).getD z)) w) : wpList P ops Q (o :: rest) a w := by
  refine wpList_plain hg fun K' hK' => ?_
  have hrun := run_lookup_at KO ht hz hm hl hk ok
  unfold Oper.wp
  simp only [execOp, hop, hb, hx, Sem.run_bind, hrun, Result.andThen_ok, Sem.run_pure]
  exact hK' _ _ h

/-- 'm[k] = v' at the operation. -/
theorem wp_mapUpdate_at (hg : o.guard = none) (m x v : Operand) (t : TypeId) (hop : o.op = Op.mapUpdate t m x v) (kt et : TypeId) (K : Value → Prop) (KO : KeyOK P kt K) (ht : P.underlying t = some (.map kt et))
    (b : Nat) (l : List (Value × Value)) (hb : a.eval m = .map (some b)) (hm : MapAt w b l) (hl : ∀ p ∈ l, K p.1) (k : Value) (hx : a.eval x = k) (hk : K k) (val : Value) (hv : a.eval v = val)
    (h : ∀ w', MapAt w' b (putV k val l) → Chg (· = b) w w' → wpList P ops Q rest (a.put o.dst undef) w') : wpList P ops Q (o :: rest) a w := by
  refine wpList_plain hg fun K' hK' => ?_
  obtain ⟨w', hrun, h1, h2⟩ := run_mapUpdate_at KO ht hm hl hk val
  unfold Oper.wp
  simp only [execOp, hop, hb, hx, hv, Sem.run_bind, hrun, Result.andThen_ok, Sem.run_pure]
  exact hK' _ _ (h w' h1 h2)

/-- 'append(v, news...)', what is appended a block of its own; where the outcome lies. -/
theorem wp_append_at (hg : o.guard = none) (s x : Operand) (t : TypeId) (hop : o.op = .call { callee := .builtin .append, args := #[s, x], argTypes := #[t, t] })
    (e : TypeId) (z : Value) (size bytes : Nat) (ht : P.underlying t = some (.slice e)) (hi : (P.info? e).map (fun i => (i.zero, i.size, i.bytes)) = some (some z, size, bytes)) (hzs : z.cells.size = size) (hsz : 0 < size)
    (v : Value) (n : Nat) (xs : List Value) (hs : a.eval s = v) (hown : w.ownsRow 0 e size v n xs)
    (B m c : Nat) (cs : Array Value) (t' : TypeId) (fr : Nat × Nat) (hx : a.eval x = .slice (some ⟨B, 0, none⟩) m c) (hB : w.heap[B]? = some (.cells cs t' fr)) (news : List Value) (hcs : cs.toList = news) (hl : news.length = m * size) (h1 : ∀ u ∈ news, u.oneCell' = true)
    (hm : 0 < m) (h63 : n + m ≤ maxLen) (hbytes : (n + m) * bytes ≤ 140737488355328)
    (h : ∀ g cap w', w'.ownsRow 0 e size (.slice (some ⟨g, 0, none⟩) (n + m) cap) (n + m) (xs ++ news) → Chg (fun k => v.ownBlock = some k) w w' → (v.ownBlock = some g ∨ w.heap.size ≤ g) → wpList P ops Q rest (a.put o.dst (.slice (some ⟨g, 0, none⟩) (n + m) cap)) w') :
    wpList P ops Q (o :: rest) a w := by
  obtain ⟨i, hi', hz0, hz1, hz2⟩ := info_parts hi
  subst hcs
  refine wpList_append_lies w hg s x t hop 0 e i z size bytes ht hi' hz0 hz1 hz2 hzs hsz v n xs hs hown ⟨B, 0, none⟩ m c cs.toList hx hl (World.news_of_block hB) h1 hm h63 hbytes (Nat.zero_le _) w.heap.size rfl ?_
  intro g cap w' h2 h3 h4 _
  exact h g cap w' h2 ((Chg.refl _ _).grown h3 (fun k hk _ => hk)) (h4.imp id (fun e => Nat.le_of_eq e.symm))

theorem exec_append {a : Act} {o : Oper} {s x : Operand} {t t' : TypeId} {v sv r : Value} {w w' : World} (ho : o.op = .call { callee := .builtin .append, args := #[s, x], argTypes := #[t, t'] }) (hs : a.eval s = v) (hx : a.eval x = sv)
    (hrun : (Builtin.append_ #[t, t'] o.type #[v, sv]).run P w = .ok r w') : (execOp a.eval o).run P w = .ok (.value r) w' := by
  unfold execOp
  simp only [ho, resolve, invoke, builtin, Sem.run_bind, Sem.run_pure, Result.andThen_ok, List.map_toArray, List.map_cons, List.map_nil, hs, hx, hrun]

theorem addr_add (b off j : Nat) : (⟨b, off, none⟩ : Addr).add j = ⟨b, off + j, none⟩ := by unfold Addr.add; split <;> simp_all

/-- 'append(v, s...)', s a slice that reads (nil, empty or not). -/
theorem wp_append_rd (hg : o.guard = none) (s x : Operand) (t : TypeId) (hop : o.op = .call { callee := .builtin .append, args := #[s, x], argTypes := #[t, t] })
    (e : TypeId) (z : Value) (size bytes : Nat) (ht : P.underlying t = some (.slice e)) (hi : (P.info? e).map (fun i => (i.zero, i.size, i.bytes)) = some (some z, size, bytes)) (hzs : z.cells.size = size) (hsz : 0 < size)
    (v : Value) (n : Nat) (xs : List Value) (hs : a.eval s = v) (hown : w.ownsRow 0 e size v n xs)
    (sv : Value) (m : Nat) (news : List Value) (G : Nat → Prop) (hx : a.eval x = sv) (hr : Rd w sv size m news G) (h1 : ∀ u ∈ news, u.oneCell' = true)
    (h63 : n + m ≤ maxLen) (hbytes : (n + m) * bytes ≤ 140737488355328)
    (h : ∀ v' w', w'.ownsRow 0 e size v' (n + m) (xs ++ news) → Chg (fun k => v.ownBlock = some k) w w' → (∀ g, v'.ownBlock = some g → v.ownBlock = some g ∨ w.heap.size ≤ g) → wpList P ops Q rest (a.put o.dst v') w') :
    wpList P ops Q (o :: rest) a w := by
  obtain ⟨i, hi', hz0, hz1, hz2⟩ := info_parts hi
  obtain ⟨hlen, hmax, ad, cap, rfl, h4, h5, h6, h7⟩ := hr
  cases ad with
  | none =>
    obtain ⟨rfl, rfl⟩ := h6 rfl
    have : news = [] := by simpa using hlen
    subst this
    refine wpList_append_own_none hg s x t hop 0 e i size ht hi' v n xs hs hown hx ?_
    exact h v w (by simpa using hown) (Chg.refl _ _) (fun g hg' => .inl hg')
  | some ad =>
    have hnews : ∀ j u, news[j]? = some u → w.cell? (ad.add j) = some u := by
      intro j u hu
      rcases h7 with rfl | ⟨b, off, he, _, hc⟩
      · have : news = [] := by simpa using hlen
        subst this; simp at hu
      · simp only [Option.some.injEq] at he
        subst he
        rw [addr_add]; exact hc j u hu
    refine wpList_append_own_at w hg s x t hop 0 e i z size bytes ht hi' hz0 hz1 hz2 hzs hsz v n xs hs hown ad m cap news hx hlen hnews h1 h63 hbytes (Nat.zero_le _) ?_
    intro v' w' g1 g2 _ g4
    refine h v' w' g1 ((Chg.refl _ _).grown g2 (fun k hk _ => hk)) (fun g hg' => ?_)
    rcases g4 with g4 | g4
    · exact .inl (by rw [← g4]; exact hg')
    · rw [hg'] at g4; simp at g4; exact .inr (by omega)

/-- A place in a row of one's own. -/
theorem owns_at {base : Nat} {e : TypeId} {v : Value} {n : Nat} {xs : List Value} (h : w.ownsRow base e 1 v n xs) {i : Nat} (hi : i < n) :
    ∃ g cap, v = .slice (some ⟨g, 0, none⟩) n cap ∧ base ≤ g ∧ (∃ old, w.cell? ⟨g, i, none⟩ = some old) ∧ w.frozen? ⟨g, i, none⟩ = false ∧ ∀ u, (w.setCell ⟨g, i, none⟩ u).ownsRow base e 1 v n (xs.set i u) := by
  rcases h.2 with ⟨_, h0⟩ | ⟨g, cap, cur, rfl, hb, hg, h3, h4, h5, h6⟩
  · omega
  · have hic : i < cur.size := by omega
    refine ⟨g, cap, rfl, hb, ⟨cur[i], cell_of_blk hg (by simp [hic])⟩, frozen_of_blk hg, fun u => ⟨by simpa using h.1, .inr ⟨g, cap, cur.setIfInBounds i u, rfl, hb, ?_, h3, h4, by simpa using h5, ?_⟩⟩⟩
    · exact blk_setCell hg u
    · rw [← h6, Array.toList_setIfInBounds, List.take_set]

theorem owns_chg {S : Nat → Prop} {w w' : World} {base : Nat} {e : TypeId} {size : Nat} {v : Value} {n : Nat} {xs : List Value} (h : w.ownsRow base e size v n xs) (hc : Chg S w w') (hs : ∀ k, v.ownBlock = some k → ¬ S k) : w'.ownsRow base e size v n xs := by
  refine ⟨h.1, ?_⟩
  rcases h.2 with hn | ⟨g, cap, cur, rfl, hb, hgg, rest⟩
  · exact .inl hn
  · exact .inr ⟨g, cap, cur, rfl, hb, hc.blk hgg (hs g rfl), rest⟩
end
end Go.Proofs.YtclljjfkaljdnaaGreatDoor
