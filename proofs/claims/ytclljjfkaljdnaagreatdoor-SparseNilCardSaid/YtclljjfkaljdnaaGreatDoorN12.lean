/- SparseNil by a symbolic run: the bound, the whole. -/
import Derived.Test.YtclljjfkaljdnaaGreatDoorN11
namespace Go.Proofs.YtclljjfkaljdnaaGreatDoor
open Go.RowKit
/-- The bound that the document tells. -/
def bnd4 (n : Int) : Int := if n ≤ 0 then 0 else if 4611686018427387904 < 1000 * n * n * n * n then 4611686018427387904 else 1000 * n * n * n * n
set_option maxRecDepth 100000
set_option maxHeartbeats 4000000 in
theorem sbound_c (n : Int) (h1 : -9223372036854775808 ≤ n) (h2 : n ≤ 9223372036854775807) (H : AH) : C E0 (.call 79 [.lit (.int .i64 n)]) H (fun v H' => H' = H ∧ v = .lit (.int .i64 (bnd4 n))) := by
  refine C_call hk79 ft79 rfl rfl rfl ?_
  simp
  refine ⟨fun h => by simp [bnd4, h], fun h => ?_⟩
  have hn : n ≠ 0 := by omega
  have hq : IntKind.wrap .i64 (Int.tdiv 4611686018427387904 n) = 4611686018427387904 / n := Go.IntWalk.i64_quo _ _ ⟨by decide, by decide, h⟩
  have hb : ∀ b : Int, 4611686018427387904 / n < b ↔ 4611686018427387904 < b * n := fun b => Int.ediv_lt_iff_lt_mul h
  have hm : ∀ b : Int, 0 ≤ b → b ≤ b * n := fun b hb => by
    have : b * 1 ≤ b * n := Int.mul_le_mul_of_nonneg_left h hb
    omega
  have m1 := hm 1000 (by decide)
  have m2 := hm (1000 * n) (by omega)
  have m3 := hm (1000 * n * n) (by omega)
  have m4 := hm (1000 * n * n * n) (by omega)
  have h' : ¬ n ≤ 0 := by omega
  refine M_loop ?_
  simp [bin_quo, hn, hq, hb]
  refine ⟨fun c1 => by have : 4611686018427387904 < 1000 * n * n * n * n := by omega
                       simp [bnd4, h', this], fun c1 => ?_⟩
  have c1' : 1000 * n ≤ 4611686018427387904 := by have := hb 1000; omega
  have w1 : IntKind.wrap .i64 (1000 * n) = 1000 * n := wrap_i64 (by omega) (by omega)
  refine M_loop ?_
  simp [bin_quo, hn, hq, hb, w1]
  refine ⟨fun c2 => by have : 4611686018427387904 < 1000 * n * n * n * n := by omega
                       simp [bnd4, h', this], fun c2 => ?_⟩
  have c2' : 1000 * n * n ≤ 4611686018427387904 := by have := hb (1000 * n); omega
  have w2 : IntKind.wrap .i64 (1000 * n * n) = 1000 * n * n := wrap_i64 (by omega) (by omega)
  refine M_loop ?_
  simp [bin_quo, hn, hq, hb, w2]
  refine ⟨fun c3 => by have : 4611686018427387904 < 1000 * n * n * n * n := by omega
                       simp [bnd4, h', this], fun c3 => ?_⟩
  have c3' : 1000 * n * n * n ≤ 4611686018427387904 := by have := hb (1000 * n * n); omega
  have w3 : IntKind.wrap .i64 (1000 * n * n * n) = 1000 * n * n * n := wrap_i64 (by omega) (by omega)
  refine M_loop ?_
  simp [bin_quo, hn, hq, hb, w3]
  refine ⟨fun c4 => by simp [bnd4, h', c4], fun c4 => ?_⟩
  have c4' : 1000 * n * n * n * n ≤ 4611686018427387904 := by have := hb (1000 * n * n * n); omega
  have w4 : IntKind.wrap .i64 (1000 * n * n * n * n) = 1000 * n * n * n * n := wrap_i64 (by omega) (by omega)
  refine M_loop ?_
  have c4'' : ¬ 4611686018427387904 < 1000 * n * n * n * n := by omega
  simp [w4, bnd4, h', c4'']
theorem quart (n : Int) (h : 0 < n) : (n < 8300 → 1000 * n * n * n * n ≤ 4745832100000000000 ∧ 1000 * n * n * n ≤ 1000 * n * n * n * n ∧ 1000 * n * n ≤ 1000 * n * n * n ∧ 1000 * n ≤ 1000 * n * n ∧ 0 < 1000 * n * n * n * n) ∧ (8300 ≤ n → 4611686018427387904 < 1000 * n * n * n * n) := by
  have m : ∀ b : Int, 0 ≤ b → b ≤ b * n := fun b hb => by
    have : b * 1 ≤ b * n := Int.mul_le_mul_of_nonneg_left (by omega) hb
    omega
  have m1 := m 1000 (by decide)
  have m2 := m (1000 * n) (by omega)
  have m3 := m (1000 * n * n) (by omega)
  have m4 := m (1000 * n * n * n) (by omega)
  constructor
  · intro hn
    have u : ∀ b c : Int, 0 ≤ b → b ≤ c → b * n ≤ c * 8300 := fun b c hb hc => Int.mul_le_mul hc (by omega) (by omega) (by omega)
    have u1 := u 1000 1000 (by decide) (by decide)
    have u2 := u (1000 * n) _ (by omega) u1
    have u3 := u (1000 * n * n) _ (by omega) u2
    have u4 := u (1000 * n * n * n) _ (by omega) u3
    omega
  · intro hn
    have u : ∀ b c : Int, 0 ≤ c → c ≤ b → c * 8300 ≤ b * n := fun b c hb hc => Int.mul_le_mul hc hn (by omega) (by omega)
    have u1 := u 1000 1000 (by decide) (by decide)
    have u2 := u (1000 * n) _ (by decide) u1
    have u3 := u (1000 * n * n) _ (by decide) u2
    have u4 := u (1000 * n * n * n) _ (by decide) u3
    omega
set_option maxHeartbeats 4000000 in
theorem sparse_c (v o n a b c : Int) (H : AH) (hn : -9223372036854775808 ≤ n ∧ n ≤ 9223372036854775807)
    (hk : C E0 (.call 74 []) (H.add (pt a b c)) fun v1 H1 => C E0 (.call 20 [v1]) H1 fun r H2 => ∃ i oo x, r = .tup [.ptr i oo, x] ∧ H2.get H.next = some (pt a b c) ∧ C E0 (.call 73 []) ((H2.add (pt a b c)).add (pt a b c)) fun v _ => v = .lit (.bool true)) :
    C E0 (.call 11 [.lit (.int .i64 v), .lit (.int .i64 o), .lit (.int .i64 n), .agg [.lit (.int .i64 a), .lit (.int .i64 b), .lit (.int .i64 c)]]) H (fun v _ => v = .lit (.bool true)) := by
  simp only [pt, puts_cons, puts_nil, Nat.zero_add, Nat.reduceAdd] at hk
  refine C_call hk11 ft11 rfl rfl rfl ?_
  by_cases h0 : 0 < n
  · obtain ⟨k1, k2⟩ := quart n h0
    have hb : ¬ n ≤ 0 := by omega
    by_cases h1 : n < 8300
    · obtain ⟨k3, k4, k5, k6, k7⟩ := k1 h1
      have w1 : IntKind.wrap .i64 (1000 * n) = 1000 * n := wrap_i64 (by omega) (by omega)
      have w2 : IntKind.wrap .i64 (1000 * n * n) = 1000 * n * n := wrap_i64 (by omega) (by omega)
      have w3 : IntKind.wrap .i64 (1000 * n * n * n) = 1000 * n * n * n := wrap_i64 (by omega) (by omega)
      have w4 : IntKind.wrap .i64 (1000 * n * n * n * n) = 1000 * n * n * n * n := wrap_i64 (by omega) (by omega)
      have e : bnd4 n = if 1000 * n * n * n * n < 4611686018427387904 then 1000 * n * n * n * n else 4611686018427387904 := by
        unfold bnd4; rw [if_neg hb]; split <;> split <;> omega
      simp [h0, h1, w1, w2, w3, w4]
      refine MT.step hk ?_
      rintro v1 H1 h1
      simp
      refine MT.step h1 ?_
      rintro r H2 ⟨i, oo, x, rfl, hg, hw⟩
      simp [MT_det (ssolve_nil _ _ _), MT_det (ssolve_no _ _ _ _ _), MT_det (status_nil _), MT_det (svar_nil _ _), MT_det (ssteps_nil _), MT_det (shas_nil _ _ _), MT_det (scallees_nil _ _ _ _), MT_det (smem_nil _ _ _ _ _), MT_det (sbound_c n hn.1 hn.2 _), e, hg]
      refine MT.step (P := fun v _ => v = .lit (.bool true)) hw ?_
      rintro v' H' rfl
      simp
    · have e : bnd4 n = 4611686018427387904 := by
        have := k2 (by omega)
        simp [bnd4, hb, this]
      simp [h0, h1]
      refine MT.step hk ?_
      rintro v1 H1 h1
      simp
      refine MT.step h1 ?_
      rintro r H2 ⟨i, oo, x, rfl, hg, hw⟩
      simp [MT_det (ssolve_nil _ _ _), MT_det (ssolve_no _ _ _ _ _), MT_det (status_nil _), MT_det (svar_nil _ _), MT_det (ssteps_nil _), MT_det (shas_nil _ _ _), MT_det (scallees_nil _ _ _ _), MT_det (smem_nil _ _ _ _ _), MT_det (sbound_c n hn.1 hn.2 _), e, hg]
      refine MT.step (P := fun v _ => v = .lit (.bool true)) hw ?_
      rintro v' H' rfl
      simp
  · have e : bnd4 n = 0 := by
      have : n ≤ 0 := by omega
      simp [bnd4, this]
    simp [h0]
    refine MT.step hk ?_
    rintro v1 H1 h1
    simp
    refine MT.step h1 ?_
    rintro r H2 ⟨i, oo, x, rfl, hg, hw⟩
    simp [MT_det (ssolve_nil _ _ _), MT_det (ssolve_no _ _ _ _ _), MT_det (status_nil _), MT_det (svar_nil _ _), MT_det (ssteps_nil _), MT_det (shas_nil _ _ _), MT_det (scallees_nil _ _ _ _), MT_det (smem_nil _ _ _ _ _), MT_det (sbound_c n hn.1 hn.2 _), e, hg]
    refine MT.step (P := fun v _ => v = .lit (.bool true)) hw ?_
    rintro v' H' rfl
    simp
end Go.Proofs.YtclljjfkaljdnaaGreatDoor
