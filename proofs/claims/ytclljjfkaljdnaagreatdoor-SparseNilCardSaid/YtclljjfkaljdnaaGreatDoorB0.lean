/- The bound of the pre-analysis. -/
import Derived.Test.YtclljjfkaljdnaaGreatDoorS0
import Derived.KernelRfl
import Derived.IntWalk
namespace Go.Proofs.YtclljjfkaljdnaaGreatDoor
open Go.RowKit
theorem ft18 : E0.ft.get 18 = some Go.Proofs.Tryz.f18 := by kernel_rfl
theorem hk18 : E0.hk.get 18 = none := by kernel_rfl
/-- The bound that the document tells. -/
def bnd (n : Int) : Int := if n ≤ 0 then 0 else if 4611686018427387904 < 1000 * n * n * n then 4611686018427387904 else 1000 * n * n * n
theorem tdiv_lt {b n : Int} (h : 0 < n) : (4611686018427387904 : Int).tdiv n < b ↔ 4611686018427387904 < b * n := by
  rw [Int.tdiv_eq_ediv_of_nonneg (by decide), Int.ediv_lt_iff_lt_mul h]
set_option maxRecDepth 10000 in
theorem bound_c (n : Int) (h1 : -9223372036854775808 ≤ n) (h2 : n ≤ 9223372036854775807) (H : AH) : C E0 (.call 18 [.lit (.int .i64 n)]) H (fun v H' => H' = H ∧ v = .lit (.int .i64 (bnd n))) := by
  refine C_call hk18 ft18 rfl rfl rfl ?_
  simp
  refine ⟨fun h => by simp [bnd, h], fun h => ?_⟩
  have hn : n ≠ 0 := by omega
  have hq : IntKind.wrap .i64 (Int.tdiv 4611686018427387904 n) = 4611686018427387904 / n := Go.IntWalk.i64_quo _ _ ⟨by decide, by decide, h⟩
  have hb : ∀ b : Int, 4611686018427387904 / n < b ↔ 4611686018427387904 < b * n := fun b => Int.ediv_lt_iff_lt_mul h
  have hm : ∀ b : Int, 0 ≤ b → b ≤ b * n := fun b hb => by
    have : b * 1 ≤ b * n := Int.mul_le_mul_of_nonneg_left h hb
    omega
  have m1 := hm 1000 (by decide)
  have m2 := hm (1000 * n) (by omega)
  have m3 := hm (1000 * n * n) (by omega)
  refine M_loop ?_
  simp [bin_quo, hn, hq, hb]
  refine ⟨fun c1 => by have : 4611686018427387904 < 1000 * n * n * n := by omega
                       have h' : ¬ n ≤ 0 := by omega
                       simp [bnd, h', this], fun c1 => ?_⟩
  have c1' : 1000 * n ≤ 4611686018427387904 := by have := hb 1000; omega
  have w1 : IntKind.wrap .i64 (1000 * n) = 1000 * n := wrap_i64 (by omega) (by omega)
  refine M_loop ?_
  simp [bin_quo, hn, hq, hb, w1]
  refine ⟨fun c2 => by have : 4611686018427387904 < 1000 * n * n * n := by omega
                       have h' : ¬ n ≤ 0 := by omega
                       simp [bnd, h', this], fun c2 => ?_⟩
  have c2' : 1000 * n * n ≤ 4611686018427387904 := by have := hb (1000 * n); omega
  have w2 : IntKind.wrap .i64 (1000 * n * n) = 1000 * n * n := wrap_i64 (by omega) (by omega)
  refine M_loop ?_
  simp [bin_quo, hn, hq, hb, w2]
  refine ⟨fun c3 => by have h' : ¬ n ≤ 0 := by omega
                       simp [bnd, h', c3], fun c3 => ?_⟩
  have c3' : 1000 * n * n * n ≤ 4611686018427387904 := by have := hb (1000 * n * n); omega
  have w3 : IntKind.wrap .i64 (1000 * n * n * n) = 1000 * n * n * n := wrap_i64 (by omega) (by omega)
  refine M_loop ?_
  have h' : ¬ n ≤ 0 := by omega
  have c3'' : ¬ 4611686018427387904 < 1000 * n * n * n := by omega
  simp [w3, bnd, h', c3'']
end Go.Proofs.YtclljjfkaljdnaaGreatDoor
