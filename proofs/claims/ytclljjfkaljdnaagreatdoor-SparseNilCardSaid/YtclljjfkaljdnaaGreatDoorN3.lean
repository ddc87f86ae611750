/- SolveNil by a symbolic run. -/
import Derived.Test.YtclljjfkaljdnaaGreatDoorB0
import Derived.Test.YtclljjfkaljdnaaGreatDoorVB
namespace Go.Proofs.YtclljjfkaljdnaaGreatDoor
open Go.RowKit
theorem ft3 : E0.ft.get 3 = some Go.Proofs.Tryz.f3 := by kernel_rfl
theorem hk3 : E0.hk.get 3 = none := by kernel_rfl
theorem ft12 : E0.ft.get 12 = some Go.Proofs.Tryz.f12 := by kernel_rfl
theorem hk12 : E0.hk.get 12 = none := by kernel_rfl
theorem ft13 : E0.ft.get 13 = some Go.Proofs.Tryz.f13 := by kernel_rfl
theorem hk13 : E0.hk.get 13 = none := by kernel_rfl
theorem ft14 : E0.ft.get 14 = some Go.Proofs.Tryz.f14 := by kernel_rfl
theorem hk14 : E0.hk.get 14 = none := by kernel_rfl
theorem ft15 : E0.ft.get 15 = some Go.Proofs.Tryz.f15 := by kernel_rfl
theorem hk15 : E0.hk.get 15 = none := by kernel_rfl
theorem ft16 : E0.ft.get 16 = some Go.Proofs.Tryz.f16 := by kernel_rfl
theorem hk16 : E0.hk.get 16 = none := by kernel_rfl
theorem ft17 : E0.ft.get 17 = some Go.Proofs.Tryz.f17 := by kernel_rfl
theorem hk17 : E0.hk.get 17 = none := by kernel_rfl
@[simp] theorem tt24 : E0.tt.get 24 = some ⟨(.pointer 114), 1, 8, [(.lit (.pointer none))]⟩ := by kernel_rfl
@[simp] theorem tt26 : E0.tt.get 26 = some ⟨(.slice 3), 1, 24, [(.lit (.slice none 0 0))]⟩ := by kernel_rfl
@[simp] theorem tt35 : E0.tt.get 35 = some ⟨(.pointer 154), 1, 8, [(.lit (.pointer none))]⟩ := by kernel_rfl

@[simp] theorem tt23 : E0.tt.get 23 = some ⟨(.struct #[⟨"Func", 3, 0, false, "", "", 0⟩, ⟨"Block", 3, 1, false, "", "", 8⟩, ⟨"At", 3, 2, false, "", "", 16⟩]), 3, 24, [(.lit (.int .i64 0)), (.lit (.int .i64 0)), (.lit (.int .i64 0))]⟩ := by kernel_rfl
@[simp] theorem tt3 : E0.tt.get 3 = some ⟨(.int .i64), 1, 8, [(.lit (.int .i64 0))]⟩ := by kernel_rfl
@[simp] theorem tt4 : E0.tt.get 4 = some ⟨.bool, 1, 1, [(.lit (.bool false))]⟩ := by kernel_rfl
set_option maxRecDepth 100000
theorem solve_nil (H : AH) : C E0 (.call 12 [.lit (.pointer none)]) H (fun v H' => H' = H ∧ v = .lit (.pointer none)) := by
  refine C_call hk12 ft12 rfl rfl rfl ?_
  simp
theorem var_nil (v : Int) (H : AH) : C E0 (.call 13 [.lit (.pointer none), .lit (.int .i64 v)]) H (fun v H' => H' = H ∧ v = .lit (.slice none 0 0)) := by
  refine C_call hk13 ft13 rfl rfl rfl ?_
  simp
theorem obj_nil (v : Int) (H : AH) : C E0 (.call 14 [.lit (.pointer none), .lit (.int .i64 v)]) H (fun v H' => H' = H ∧ v = .lit (.slice none 0 0)) := by
  refine C_call hk14 ft14 rfl rfl rfl ?_
  simp
theorem has_nil (v o : Int) (H : AH) : C E0 (.call 15 [.lit (.pointer none), .lit (.int .i64 v), .lit (.int .i64 o)]) H (fun v H' => H' = H ∧ v = .lit (.bool false)) := by
  refine C_call hk15 ft15 rfl rfl rfl ?_
  simp
theorem callees_nil (a b c : Int) (H : AH) : C E0 (.call 16 [.lit (.pointer none), .agg [.lit (.int .i64 a), .lit (.int .i64 b), .lit (.int .i64 c)]]) H (fun v H' => H' = H.add (.cells 3 (Tr.e.puts 0 [.lit (.int .i64 a), .lit (.int .i64 b), .lit (.int .i64 c)]) false) ∧ v = .lit (.slice none 0 0)) := by
  refine C_call hk16 ft16 rfl rfl rfl ?_
  simp
theorem steps_nil (H : AH) : C E0 (.call 17 [.lit (.pointer none)]) H (fun v H' => H' = H ∧ v = .lit (.int .i64 0)) := by
  refine C_call hk17 ft17 rfl rfl rfl ?_
  simp
theorem cube (n : Int) (h : 0 < n) : (n < 170000 → 1000 * n * n * n ≤ 4913000000000000000 ∧ 1000 * n * n ≤ 1000 * n * n * n ∧ 1000 * n ≤ 1000 * n * n ∧ 0 < 1000 * n * n * n) ∧ (170000 ≤ n → 4611686018427387904 < 1000 * n * n * n) := by
  have m : ∀ b : Int, 0 ≤ b → b ≤ b * n := fun b hb => by
    have : b * 1 ≤ b * n := Int.mul_le_mul_of_nonneg_left (by omega) hb
    omega
  have m1 := m 1000 (by decide)
  have m2 := m (1000 * n) (by omega)
  have m3 := m (1000 * n * n) (by omega)
  constructor
  · intro hn
    have u : ∀ b c : Int, 0 ≤ b → b ≤ c → b * n ≤ c * 170000 := fun b c hb hc => Int.mul_le_mul hc (by omega) (by omega) (by omega)
    have u1 := u 1000 1000 (by decide) (by decide)
    have u2 := u (1000 * n) _ (by omega) u1
    have u3 := u (1000 * n * n) _ (by omega) u2
    omega
  · intro hn
    have u : ∀ b c : Int, 0 ≤ c → c ≤ b → c * 170000 ≤ b * n := fun b c hb hc => Int.mul_le_mul hc hn (by omega) (by omega)
    have u1 := u 1000 1000 (by decide) (by decide)
    have u2 := u (1000 * n) _ (by decide) u1
    have u3 := u (1000 * n * n) _ (by decide) u2
    omega
/-- The point of the arguments, put on the heap. -/
noncomputable def pt (a b c : Int) : AO := .cells 3 (Tr.e.puts 0 [.lit (.int .i64 a), .lit (.int .i64 b), .lit (.int .i64 c)]) false
set_option maxHeartbeats 4000000 in
theorem tail_c (v o n a b c : Int) (H : AH) (hn : -9223372036854775808 ≤ n ∧ n ≤ 9223372036854775807) (hw : C E0 (.call 19 []) ((H.add (pt a b c)).add (pt a b c)) fun v _ => v = .lit (.bool true)) : C E0 (.call 3 [.lit (.int .i64 v), .lit (.int .i64 o), .lit (.int .i64 n), .agg [.lit (.int .i64 a), .lit (.int .i64 b), .lit (.int .i64 c)]]) H (fun v _ => v = .lit (.bool true)) := by
  simp only [pt, puts_cons, puts_nil, Nat.zero_add, Nat.reduceAdd] at hw
  refine C_call hk3 ft3 rfl rfl rfl ?_
  by_cases h0 : 0 < n
  · obtain ⟨k1, k2⟩ := cube n h0
    have hb : ¬ n ≤ 0 := by omega
    by_cases h1 : n < 170000
    · obtain ⟨k3, k4, k5, k6⟩ := k1 h1
      have w1 : IntKind.wrap .i64 (1000 * n) = 1000 * n := wrap_i64 (by omega) (by omega)
      have w2 : IntKind.wrap .i64 (1000 * n * n) = 1000 * n * n := wrap_i64 (by omega) (by omega)
      have w3 : IntKind.wrap .i64 (1000 * n * n * n) = 1000 * n * n * n := wrap_i64 (by omega) (by omega)
      have e : bnd n = if 1000 * n * n * n < 4611686018427387904 then 1000 * n * n * n else 4611686018427387904 := by
        unfold bnd; rw [if_neg hb]; split <;> split <;> omega
      simp [h0, h1, w1, w2, w3, MT_det (solve_nil _), MT_det (var_nil _ _), MT_det (obj_nil _ _), MT_det (has_nil _ _ _), MT_det (callees_nil _ _ _ _), MT_det (steps_nil _), MT_det (bound_c n hn.1 hn.2 _), e]
      refine MT.step (P := fun v _ => v = .lit (.bool true)) hw ?_
      rintro v H' rfl
      simp
    · have e : bnd n = 4611686018427387904 := by
        have := k2 (by omega)
        simp [bnd, hb, this]
      simp [h0, h1, MT_det (solve_nil _), MT_det (var_nil _ _), MT_det (obj_nil _ _), MT_det (has_nil _ _ _), MT_det (callees_nil _ _ _ _), MT_det (steps_nil _), MT_det (bound_c n hn.1 hn.2 _), e]
      refine MT.step (P := fun v _ => v = .lit (.bool true)) hw ?_
      rintro v H' rfl
      simp
  · have e : bnd n = 0 := by
      have : n ≤ 0 := by omega
      simp [bnd, this]
    simp [h0, MT_det (solve_nil _), MT_det (var_nil _ _), MT_det (obj_nil _ _), MT_det (has_nil _ _ _), MT_det (callees_nil _ _ _ _), MT_det (steps_nil _), MT_det (bound_c n hn.1 hn.2 _), e]
    refine MT.step (P := fun v _ => v = .lit (.bool true)) hw ?_
    rintro v H' rfl
    simp
end Go.Proofs.YtclljjfkaljdnaaGreatDoor
