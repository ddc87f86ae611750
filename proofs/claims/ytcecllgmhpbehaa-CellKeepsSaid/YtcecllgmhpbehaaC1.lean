/- The heap of cells (gnomon/cell): what lies in memory, and the small functions. -/
import Derived.Test.YtcecllgmhpbehaaRows
import Derived.Test.YtcecllgmhpbehaaFam
import Derived.Deep.OwnRows
namespace Go.Proofs.Ytcecllgmhpbehaa
open Go.RowKit

/-- An api.Value. -/
structure Cv where
  k : Int
  o : Int
  n : Int
  deriving DecidableEq
def Cv.cells (c : Cv) : List Value := [.int .u8 c.k, .int .i64 c.o, .int .i64 c.n]
def Cv.enc (c : Cv) : Value := .agg #[.int .u8 c.k, .int .i64 c.o, .int .i64 c.n]
def Cv.zero : Cv := ⟨0, 0, 0⟩
theorem Cv.len (c : Cv) : c.cells.length = 3 := rfl
theorem one_cv (c : Cv) : ∀ u ∈ c.cells, u.oneCell' = true := by intro u hu; simp [Cv.cells] at hu; rcases hu with rfl | rfl | rfl <;> rfl

/-- An object: its block, its cells' block, its base, its cells. -/
structure Ob where
  pb : Nat
  cb : Nat
  base : Int
  vs : List Cv

def cnt (os : List Ob) : Nat := (os.map fun o => o.vs.length).sum

def ObAt (w : World) (o : Ob) : Prop :=
  w.heap[o.pb]? = some (.cells #[.slice (some ⟨o.cb, 0, none⟩) o.vs.length o.vs.length, .int .i64 o.base] 47) ∧ w.heap[o.cb]? = some (.cells (o.vs.flatMap Cv.cells).toArray 24 (0, 0)) ∧ o.vs.length ≤ 64

/-- Block p is a heap of these objects, with room for lim cells. -/
def HeapS (w : World) (p : Nat) (os : List Ob) (lim : Nat) (F : Nat → Prop) : Prop :=
  ∃ lv, w.heap[p]? = some (.cells #[lv, .int .i64 (cnt os), .int .i64 lim] 43) ∧ w.ownsRow 0 44 1 lv os.length (os.map fun o => .pointer (some ⟨o.pb, 0, none⟩)) ∧ (∀ o ∈ os, ObAt w o) ∧ lv.ownBlock ≠ some p ∧
    (∀ o ∈ os, o.cb ≠ p ∧ o.pb ≠ p ∧ lv.ownBlock ≠ some o.cb ∧ lv.ownBlock ≠ some o.pb) ∧ (∀ o ∈ os, ∀ o' ∈ os, o.pb ≠ o'.cb) ∧ (os.map (·.cb)).Nodup ∧ cnt os ≤ lim ∧ lim ≤ 16384 ∧
    F = fun k => k = p ∨ lv.ownBlock = some k ∨ ∃ o ∈ os, k = o.pb ∨ k = o.cb

theorem HeapS.chg {w w' : World} {p : Nat} {os : List Ob} {lim : Nat} {F S : Nat → Prop} (h : HeapS w p os lim F) (hc : Chg S w w') (hs : ∀ b, F b → ¬ S b) : HeapS w' p os lim F := by
  obtain ⟨lv, hb, hl, ho, h1, h2, h3, h4, h5, h6, rfl⟩ := h
  refine ⟨lv, hc.blk hb (hs p (.inl rfl)), owns_chg hl hc (fun k hk => hs k (.inr (.inl hk))), fun o hm => ?_, h1, h2, h3, h4, h5, h6, rfl⟩
  obtain ⟨g1, g2, g3⟩ := ho o hm
  exact ⟨hc.blk g1 (hs _ (.inr (.inr ⟨o, hm, .inl rfl⟩))), hc.blk g2 (hs _ (.inr (.inr ⟨o, hm, .inr rfl⟩))), g3⟩
theorem HeapS.lt {w : World} {p : Nat} {os : List Ob} {lim : Nat} {F : Nat → Prop} (h : HeapS w p os lim F) : ∀ b, F b → b < w.heap.size := by
  obtain ⟨lv, hb, hl, ho, h1, h2, h3, h4, h5, h6, rfl⟩ := h
  rintro b (rfl | hk | ⟨o, hm, rfl | rfl⟩)
  · exact blk_lt hb
  · exact (hl.lt b hk).2
  · exact blk_lt (ho o hm).1
  · exact blk_lt (ho o hm).2.1

/-- What lies at an address. -/
def getC (os : List Ob) (q : Cv) : Option Cv := if q.k = 1 ∧ 0 ≤ q.o ∧ 0 ≤ q.n then (os[q.o.toNat]?).bind fun o => o.vs[q.n.toNat]? else none
def stC (os : List Ob) (q : Cv) : Int := if q.k = 1 then (if (getC os q).isSome then 0 else 3) else 2

theorem getC_some {os : List Ob} {q v : Cv} (h : getC os q = some v) : ∃ (i j : Nat) (o : Ob), q = ⟨1, i, j⟩ ∧ os[i]? = some o ∧ o.vs[j]? = some v := by
  unfold getC at h
  split at h
  · rename_i hc
    obtain ⟨k, a, b⟩ := q
    obtain ⟨rfl, h1, h2⟩ := hc
    obtain ⟨i, rfl⟩ := Int.eq_ofNat_of_zero_le h1
    obtain ⟨j, rfl⟩ := Int.eq_ofNat_of_zero_le h2
    simp only [Int.toNat_natCast, Option.bind_eq_some_iff] at h
    obtain ⟨o, ho, hv⟩ := h
    exact ⟨i, j, o, rfl, ho, hv⟩
  · cases h
theorem getC_at (os : List Ob) (i j : Nat) : getC os ⟨1, i, j⟩ = (os[i]?).bind fun o => o.vs[j]? := by simp [getC]

set_option maxHeartbeats 400000 in
theorem hasS (ad : Option Addr) (n c : Nat) (i : Int) (w : World) :
    Calls Try.prog 18 #[.slice ad n c, .int .i64 i] w fun e w' => e = .returned (.bool (decide (0 ≤ i ∧ i < n))) ∧ w = w' := by
  by_cases h0 : 0 ≤ i
  · have h0' : decide (0 ≤ i) = true := by simpa using h0
    go_enter Try.func18, Try.ntmps18
    go_wp2
    go_ret
    exact ⟨by simp [h0], rfl⟩
  · have h0' : decide (0 ≤ i) = false := by simpa using h0
    go_enter Try.func18, Try.ntmps18
    go_wp2
    go_ret
    exact ⟨by simp [h0], rfl⟩

theorem slice_own {w : World} {base : Nat} {e : TypeId} {size : Nat} {v : Value} {n : Nat} {xs : List Value} (h : w.ownsRow base e size v n xs) : ∃ ad c, v = .slice ad n c := by
  obtain ⟨_, _, ad, c, rfl, _⟩ := Rd.of_owns h
  exact ⟨ad, c, rfl⟩

set_option maxHeartbeats 400000 in
theorem objsS (p : Nat) (os : List Ob) (lim : Nat) (F : Nat → Prop) (w : World) (h : HeapS w p os lim F) :
    Calls Try.prog 6 #[.pointer (some ⟨p, 0, none⟩)] w fun e w' => e = .returned (.int .i64 os.length) ∧ w = w' := by
  obtain ⟨lv, hb, hl, _⟩ := h
  obtain ⟨ad, c, rfl⟩ := slice_own hl
  have hc := cell_of_blk (i := 0) hb rfl
  clear hl
  go_enter Try.func6, Try.ntmps6
  go_wp2
  go_ret
  exact ⟨rfl, rfl⟩
set_option maxHeartbeats 400000 in
theorem cellsS (p : Nat) (os : List Ob) (lim : Nat) (F : Nat → Prop) (w : World) (h : HeapS w p os lim F) :
    Calls Try.prog 10 #[.pointer (some ⟨p, 0, none⟩)] w fun e w' => e = .returned (.int .i64 (cnt os)) ∧ w = w' := by
  obtain ⟨lv, hb, hl, _⟩ := h
  have hc := cell_of_blk (i := 1) hb rfl
  clear hl
  go_enter Try.func10, Try.ntmps10
  go_wp2
  go_ret
  exact ⟨rfl, rfl⟩

theorem heapS_new (w : World) (lim : Nat) (hn : lim ≤ 16384) : HeapS (w.alloc (.cells #[.slice none 0 0, .int .i64 0, .int .i64 lim] 43)) w.heap.size [] lim (fun k => k = w.heap.size) := by
  refine ⟨.slice none 0 0, blk_alloc_new _ _, World.ownsRow_nil _ _ _ _, by simp, by simp [Value.ownBlock], by simp, by simp, by simp, by simp [cnt], hn, by simp [Value.ownBlock]⟩

def NewPost (w : World) (lim : Nat) (e : Ending) (w' : World) : Prop := ∃ p F, e = .returned (.pointer (some ⟨p, 0, none⟩)) ∧ HeapS w' p [] lim F ∧ Chg (fun _ => False) w w' ∧ ∀ b, F b → w.heap.size ≤ b
theorem new3 (w : World) : Calls Try.prog 5 #[.int .i64 3] w (NewPost w 3) := by
  have h := Lib.hid (heapS_new w 3 (by decide))
  go_enter Try.func5, Try.ntmps5
  go_wp2
  go_ret
  exact ⟨w.heap.size, _, rfl, h.out, chg_alloc _ _ _, by rintro b rfl; omega⟩
theorem newMax (w : World) : Calls Try.prog 5 #[.int .i64 16384] w (NewPost w 16384) := by
  have h := Lib.hid (heapS_new w 16384 (by decide))
  go_enter Try.func5, Try.ntmps5
  go_wp2
  go_ret
  exact ⟨w.heap.size, _, rfl, h.out, chg_alloc _ _ _, by rintro b rfl; omega⟩
end Go.Proofs.Ytcecllgmhpbehaa
