import Derived.Test.YtlbppfdkcaoijaaA3
namespace Go.Proofs.Ytlbppfdkcaoijaa
open Go.RowKit

def sA : ByteArray := ⟨#[97]⟩
def sB : ByteArray := ⟨#[98]⟩
def sC : ByteArray := ⟨#[99]⟩

theorem sB_list : sB.toList = [98] := by decide +kernel

theorem rd_lit (w : World) (xs : List ByteArray) (h : xs.length ≤ 1000) (T : TypeId) :
    Rd (w.alloc (.cells (xs.map Value.string).toArray T)) (.slice (some ⟨w.heap.size, 0, none⟩) xs.length xs.length) 1 xs.length (xs.map .string) (fun b => b = w.heap.size) := by
  refine ⟨by simp, by unfold maxLen; omega, _, _, rfl, Nat.le_refl _, by unfold maxLen; omega, (fun e => by cases e), .inr ⟨w.heap.size, 0, rfl, rfl, fun j u hu => ?_⟩⟩
  rw [Nat.zero_add]
  exact cell_of_blk (blk_alloc_new _ _) (by simpa using hu)

set_option maxHeartbeats 1000000 in
theorem wakesS (w : World) : Calls Try.prog 8 #[] w fun e w' => e = .returned (.bool true) ∧ Chg (fun _ => False) w w' := by
  have HR := Lib.hid (rd_lit w [sA, sB, sA] (by decide) 9)
  go_enter Try.func8, Try.ntmps8
  go_wp2_with fail
  refine (newS _ [sA, sB, sA] _ _ HR.out (by decide)).mono ?_
  rintro e w1 ⟨p, F, rfl, hT, hC, hF⟩
  have e1 : tAll [sA, sB, sA] = [sA, sB] := by decide
  rw [e1] at hT
  clear e1
  go_wp2_with fail
  refine (keyS p _ F 1 _ hT).mono ?_
  rintro e w1 ⟨rfl, rfl⟩
  have e2 : keyOut [sA, sB] 1 = .tuple #[.string sB, .int .i64 0] := rfl
  rw [e2]
  clear e2
  go_wp2_with fail
  refine (lenS p _ F _ hT).mono ?_
  rintro e w1 ⟨rfl, rfl⟩
  have e2 : ((([sA, sB] : List ByteArray).length : Nat) : Int) = 2 := rfl
  rw [e2]
  clear e2
  go_wp2_with fail
  refine (idS p _ F sC _ hT (by decide)).mono ?_
  rintro e w2 ⟨rfl, F2, hT2, hC2, hF2⟩
  have e3 : ((tNo sC [sA, sB] : Nat) : Int) = 2 := rfl
  have e4 : tAdd sC [sA, sB] = [sA, sB, sC] := by decide
  rw [e4] at hT2
  rw [e3]
  clear e3 e4
  go_wp2_with fail
  refine (idS p _ F2 sB _ hT2 (by decide)).mono ?_
  rintro e w3 ⟨rfl, F3, hT3, hC3, hF3⟩
  have e3 : ((tNo sB [sA, sB, sC] : Nat) : Int) = 1 := rfl
  have e4 : tAdd sB [sA, sB, sC] = [sA, sB, sC] := by decide
  rw [e4] at hT3
  rw [e3]
  clear e3 e4
  have hsb := sB_list
  go_wp2_with fail
  refine (keysS p _ F3 _ hT3 (by decide)).mono ?_
  rintro e w4 ⟨v, rfl, h1, h2⟩
  have hr := (Rd.of_owns h1).chg (chg_alloc (fun _ => False) w4 (.cells #[.string sA, .string sB, .string sC] 9)) (fun _ _ e => e)
  have hq := rd_lit w4 [sA, sB, sC] (by decide) 9
  have HR2 := Lib.hid hr
  have HQ2 := Lib.hid hq
  clear hr hq
  go_wp2_with fail
  refine (sameS _ _ [sA, sB, sC] [sA, sB, sC] _ _ _ HR2.out HQ2.out).mono ?_
  rintro e w5 ⟨rfl, n, rfl⟩
  have e5 : decide ([sA, sB, sC] = [sA, sB, sC]) = true := rfl
  rw [e5]
  clear e5
  go_wp2_with fail
  go_ret
  refine ⟨rfl, ?_⟩
  have hs := hC.size
  simp at hs
  have c1 := (chg_alloc (fun _ => False) w (.cells (([sA, sB, sA] : List ByteArray).map Value.string).toArray 9)).trans hC
  have c2 := c1.then' hC2 (fun b hb hf => by have := hF b hf; simp at this; omega)
  have c3 := c2.then' hC3 (fun b hb hf => by
    rcases hF2 b hf with h | h
    · have := hF b h; simp at this; omega
    · have := c1.size; omega)
  exact ((c3.trans h2).alloc _).drewN _
end Go.Proofs.Ytlbppfdkcaoijaa
