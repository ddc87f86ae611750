/- wakes. -/
import Derived.Test.YtjkcoooijfbfpaaQ5
import Derived.Test.YtjkcoooijfbfpaaRds
namespace Go.Proofs.Ytjkcoooijfbfpaa
open Go.RowKit Go.Shelf

theorem rd_lit (w : World) (xs : List Int) (h : xs.length ≤ 1000000) (T : TypeId) :
    Rd (w.alloc (.cells (xs.map (Value.int .i64)).toArray T)) (.slice (some ⟨w.heap.size, 0, none⟩) xs.length xs.length) 1 xs.length (xs.map (.int .i64)) (fun b => b = w.heap.size) := by
  refine ⟨by simp, by unfold maxLen; omega, _, _, rfl, Nat.le_refl _, by unfold maxLen; omega, (fun e => by cases e), .inr ⟨w.heap.size, 0, rfl, rfl, fun j u hu => ?_⟩⟩
  rw [Nat.zero_add]
  exact cell_of_blk (blk_alloc_new _ _) (by simpa using hu)

def k1 : Qs := ⟨[false, false, false, true, false, false, false, false, false], [1, 5, -1], 0⟩
def k2 : Qs := ⟨[false, true, false, true, false, false, false, false, false], [1, 5, -1], 0⟩
def k3 : Qs := ⟨[false, true, false, true, false, false, false, true, false], [1, 5, -1], 0⟩
def k4 : Qs := ⟨[false, true, false, false, false, false, false, true, false], [5, -1], 1⟩
def k5 : Qs := ⟨[false, false, false, false, false, false, false, true, false], [-1], 2⟩

set_option maxHeartbeats 2000000 in
theorem wakesQ (w : World) : Calls Try.prog 12 #[] w fun e w' => e = .returned (.bool true) ∧ Chg (fun _ => False) w w' := by
  have HR := Lib.hid (rd_lit w [1, 5, -1] (by decide) 3)
  go_enter Try.func12, Try.ntmps12
  go_wp2_with fail
  refine (newQ 9 _ [1, 5, -1] _ _ HR.out (by decide)).mono ?_
  rintro e w1 ⟨p, F, rfl, q1, c1, f1⟩
  go_wp2_with fail
  refine (addQ p _ F 3 _ q1).mono ?_
  rintro e w2 ⟨rfl, q2, c2⟩
  rw [show (Qs.new 9 [1, 5, -1]).may 3 = true by decide]
  rw [show (Qs.new 9 [1, 5, -1]).add 3 = k1 by rfl] at q2
  go_wp2_with fail
  refine (addQ p _ F 1 _ q2).mono ?_
  rintro e w3 ⟨rfl, q3, c3⟩
  rw [show k1.may 1 = true by decide]
  rw [show k1.add 1 = k2 by rfl] at q3
  go_wp2_with fail
  refine (addQ p _ F 7 _ q3).mono ?_
  rintro e w4 ⟨rfl, q4, c4⟩
  rw [show k2.may 7 = true by decide]
  rw [show k2.add 7 = k3 by rfl] at q4
  go_wp2_with fail
  refine (addQ p _ F 3 _ q4).mono ?_
  rintro e w5 ⟨rfl, q5, c5⟩
  rw [show k3.may 3 = false by decide]
  rw [show k3.add 3 = k3 by rfl] at q5
  go_wp2_with fail
  refine (takeYes p _ F _ q5 (by decide) (by decide) (by decide)).mono ?_
  rintro e w6 ⟨rfl, q6, c6⟩
  rw [show k3.next = 3 by decide, show ((3 : Nat) : Int) = 3 by rfl]
  rw [show k3.took = k4 by rfl] at q6
  go_wp2_with fail
  refine (takeYes p _ F _ q6 (by decide) (by decide) (by decide)).mono ?_
  rintro e w7 ⟨rfl, q7, c7⟩
  rw [show k4.next = 1 by decide, show ((1 : Nat) : Int) = 1 by rfl]
  rw [show k4.took = k5 by rfl] at q7
  go_wp2_with fail
  refine (lenQ p _ F _ q7).mono ?_
  rintro e w8 ⟨rfl, rfl⟩
  rw [show k5.cnt = 1 by decide, show ((1 : Nat) : Int) = 1 by rfl]
  go_wp2_with fail
  refine (takenQ p _ F _ q7).mono ?_
  rintro e w8 ⟨rfl, rfl⟩
  rw [show k5.tk = 2 by rfl, show ((2 : Nat) : Int) = 2 by rfl]
  go_wp2_with fail
  refine (waitsQ p _ F 7 _ q7).mono ?_
  rintro e w8 ⟨rfl, rfl⟩
  rw [show k5.has 7 = true by decide]
  go_wp2_with fail
  go_ret
  refine ⟨rfl, ?_⟩
  have d1 := (chg_alloc (fun _ => False) w (.cells (([1, 5, -1] : List Int).map (Value.int .i64)).toArray 3)).trans c1
  have hs : ∀ b, F b → w.heap.size ≤ b := fun b hb => by have := f1 b hb; simp at this; omega
  exact (((((d1.then' c2 (fun b hb hf => by have := hs b hf; omega)).then' c3 (fun b hb hf => by have := hs b hf; omega)).then' c4 (fun b hb hf => by have := hs b hf; omega)).then' c5 (fun b hb hf => by have := hs b hf; omega)).then' c6 (fun b hb hf => by have := hs b hf; omega)).then' c7 (fun b hb hf => by have := hs b hf; omega)
end Go.Proofs.Ytjkcoooijfbfpaa
