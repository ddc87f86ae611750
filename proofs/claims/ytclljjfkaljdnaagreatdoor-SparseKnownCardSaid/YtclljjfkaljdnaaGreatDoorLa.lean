/- What the card's condition says of the library's table. -/
import Derived.Test.YtclljjfkaljdnaaGreatDoorRows
import Derived.Test.YtclljjfkaljdnaaGreatDoorTie
import Derived.Test.YtclljjfkaljdnaaGreatDoorHk
import Derived.ProofKit
import Derived.LaidMore
import Derived.OpenShut
import Derived.Stop.Joined
namespace Go.Proofs.YtclljjfkaljdnaaGreatDoor
open Go.ChangeShapes Go.WideShapes Go.ChangeAt Go.WideMaps Go.WideElems Go.RowKit

def laid1 : List (String × DataW Unit) := [("math/bits.deBruijn64tab", Rows.laid_math_bits_deBruijn64tab)]
theorem own : ownKnob Go.Proofs.Tryz.prog.godebug = none := by kernel_rfl
theorem laidOut : laidOutB Go.Proofs.Tryz.prog = true := by kernel_rfl
theorem gTab : Go.Proofs.Tryz.prog.globalNamed "math/bits.deBruijn64tab" = some 0 := by kernel_rfl
theorem tTab : (Go.Proofs.Tryz.prog.globals[0]?).map (·.type) = some 328 := by kernel_rfl
theorem uTab : Go.Proofs.Tryz.prog.underlying 328 = some (.array 64 5) := by kernel_rfl
theorem cTab : Go.Proofs.Tryz.prog.cellsOf 5 = 1 := by kernel_rfl
theorem uByte : Go.Proofs.Tryz.prog.underlying 5 = some (.int .u8) := by kernel_rfl

/-- The door's own heap meets the condition. -/
theorem door_met (os : Os) (args : Array Value) : laidMetH Go.Proofs.Tryz.prog laid1 ((World.doorLaid Go.Proofs.Tryz.prog 4000 os).forCall (fun _ _ => 0) ⟨#[], args, []⟩).memory :=
  laidMetH_of_parts3 (fuel := 8) (laidMet_of_run' 8 (by kernel_rfl) (by kernel_rfl)) (by kernel_rfl) (by kernel_rfl)

/-- A cell that reads lies in a block of cells. -/
theorem cells_of_cell {w : World} {b i : Nat} {v : Value} (h : w.cell? ⟨b, i, none⟩ = some v) : ∃ c e fz, w.heap[b]? = some (.cells c e fz) ∧ c[i]? = some v := by
  unfold World.cell? at h
  split at h
  · rename_i c e fz hb
    exact ⟨c, e, fz, hb, by simpa using h⟩
  · cases h

theorem of_laid {W : World} (h : laidMetH Go.Proofs.Tryz.prog laid1 W) : TabAt W tab := by
  rw [MakeChecks.laidMetH_plain _ _ _ (by kernel_rfl)] at h
  obtain ⟨ps, ⟨g0, t0, cs0, f0, p0, q0, hg0, ht0, hv0, hd0, _⟩, _⟩ := h
  obtain rfl := Option.some.inj (gTab.symm.trans hg0)
  obtain rfl := Option.some.inj (tTab.symm.trans ht0)
  obtain ⟨xs, m1, rfl, hx1, hlen, hn3, hel⟩ := DataW.trod_array uTab hd0
  have hmap : (xs.map (·.1)) = tab.map fun n : Nat => (DataW.lit (Lit.int .u8 (n : Int)) : DataW Unit) := by
    have e1 : (Rows.laid_math_bits_deBruijn64tab : DataW Unit) = .agg (tab.map fun n : Nat => (DataW.lit (Lit.int .u8 (n : Int)) : DataW Unit)) := by kernel_rfl
    have e2 := (Prod.mk.inj hx1).1
    rw [e1] at e2
    exact (DataW.agg.inj e2).symm
  have cell : ∀ (i n : Nat), tab[i]? = some n → W.cell? ⟨0, i, none⟩ = some (.int .u8 (n : Int)) := by
    intro i n hi
    have hi64 : i < 64 := by
      have := (List.getElem?_eq_some_iff.1 hi).1
      exact this
    have hx : (xs.map (·.1))[i]? = some (.lit (.int .u8 (n : Int))) := by rw [hmap, List.getElem?_map, hi]; rfl
    rw [List.getElem?_map] at hx
    obtain ⟨x, hxi, hx'⟩ := Option.map_eq_some_iff.1 hx
    have he := hel i hi64
    rw [hxi, cTab] at he
    obtain ⟨k, e1, e2, _⟩ := DataW.trod_int uByte he
    rw [e2] at hx'
    have hk : k = (n : Int) := by
      have := DataW.lit.inj hx'
      exact (Lit.int.inj this).2
    subst hk
    rw [World.var?_cell hg0 hv0 i]
    have e3 : (cs0.toList.drop (i * 1)).head? = some (.int .u8 (n : Int)) := by
      cases hd : cs0.toList.drop (i * 1) with
      | nil => rw [hd] at e1; cases e1
      | cons a l => rw [hd] at e1; simp at e1; rw [e1]; rfl
    rw [Nat.mul_one, List.head?_drop, Array.getElem?_toList] at e3
    exact e3
  obtain ⟨c, e, fz, hb, _⟩ := cells_of_cell (cell 0 0 rfl)
  refine ⟨c, e, fz, hb, fun i n hi => ?_⟩
  obtain ⟨c', e', fz', hb', hc'⟩ := cells_of_cell (cell i n hi)
  rw [hb] at hb'
  cases hb'
  exact hc'
end Go.Proofs.YtclljjfkaljdnaaGreatDoor
