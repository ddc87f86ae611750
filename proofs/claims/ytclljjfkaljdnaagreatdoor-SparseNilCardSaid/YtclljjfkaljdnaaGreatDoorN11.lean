/- SparseNil by a symbolic run. -/
import Derived.Test.YtclljjfkaljdnaaGreatDoorN3
namespace Go.Proofs.YtclljjfkaljdnaaGreatDoor
open Go.RowKit
theorem ft11 : E0.ft.get 11 = some Go.Proofs.Tryz.f11 := by kernel_rfl
theorem hk11 : E0.hk.get 11 = none := by kernel_rfl
theorem ft69 : E0.ft.get 69 = some Go.Proofs.Tryz.f69 := by kernel_rfl
theorem hk69 : E0.hk.get 69 = none := by kernel_rfl
theorem ft70 : E0.ft.get 70 = some Go.Proofs.Tryz.f70 := by kernel_rfl
theorem hk70 : E0.hk.get 70 = none := by kernel_rfl
theorem ft72 : E0.ft.get 72 = some Go.Proofs.Tryz.f72 := by kernel_rfl
theorem hk72 : E0.hk.get 72 = none := by kernel_rfl
theorem ft75 : E0.ft.get 75 = some Go.Proofs.Tryz.f75 := by kernel_rfl
theorem hk75 : E0.hk.get 75 = none := by kernel_rfl
theorem ft76 : E0.ft.get 76 = some Go.Proofs.Tryz.f76 := by kernel_rfl
theorem hk76 : E0.hk.get 76 = none := by kernel_rfl
theorem ft77 : E0.ft.get 77 = some Go.Proofs.Tryz.f77 := by kernel_rfl
theorem hk77 : E0.hk.get 77 = none := by kernel_rfl
theorem ft78 : E0.ft.get 78 = some Go.Proofs.Tryz.f78 := by kernel_rfl
theorem hk78 : E0.hk.get 78 = none := by kernel_rfl
theorem ft79 : E0.ft.get 79 = some Go.Proofs.Tryz.f79 := by kernel_rfl
theorem hk79 : E0.hk.get 79 = none := by kernel_rfl
@[simp] theorem tt103 : E0.tt.get 103 = some ⟨(.pointer 234), 1, 8, [(.lit (.pointer none))]⟩ := by kernel_rfl

theorem ft133 : E0.ft.get 133 = some Go.Proofs.Tryz.f133 := by kernel_rfl
theorem hk133 : E0.hk.get 133 = none := by kernel_rfl
theorem ft210 : E0.ft.get 210 = some Go.Proofs.Tryz.f210 := by kernel_rfl
theorem hk210 : E0.hk.get 210 = none := by kernel_rfl
set_option maxRecDepth 100000
theorem ssolve_nil (p : AV) (n : Int) (H : AH) : C E0 (.call 69 [.lit (.pointer none), .lit (.pointer none), p, .lit (.int .i64 n)]) H (fun v H' => H' = H ∧ v = .lit (.pointer none)) := by
  refine C_call hk69 ft69 rfl rfl rfl ?_
  simp
theorem ssolve_no (i o : Nat) (p : AV) (n : Int) (H : AH) : C E0 (.call 69 [.ptr i o, .lit (.pointer none), p, .lit (.int .i64 n)]) H (fun v H' => H' = H ∧ v = .lit (.pointer none)) := by
  refine C_call hk69 ft69 rfl rfl rfl ?_
  simp
theorem status_nil (H : AH) : C E0 (.call 70 [.lit (.pointer none)]) H (fun v H' => H' = H ∧ v = .lit (.int .u8 0)) := by
  refine C_call hk70 ft70 rfl rfl rfl ?_
  simp
theorem svar_nil (v : Int) (H : AH) : C E0 (.call 72 [.lit (.pointer none), .lit (.int .i64 v)]) H (fun v H' => H' = H ∧ v = .lit (.slice none 0 0)) := by
  refine C_call hk72 ft72 rfl rfl rfl ?_
  simp
theorem ssteps_nil (H : AH) : C E0 (.call 75 [.lit (.pointer none)]) H (fun v H' => H' = H ∧ v = .lit (.int .i64 0)) := by
  refine C_call hk75 ft75 rfl rfl rfl ?_
  simp
theorem index_nil (x : Int) (H : AH) : C E0 (.call 210 [.lit (.slice none 0 0), .lit (.int .i64 x)]) H (fun v H' => H' = H ∧ v = .lit (.int .i64 (-1))) := by
  refine C_call hk210 ft210 rfl rfl rfl ?_
  simp
  refine M_loop ?_
  simp
theorem contains_nil (x : Int) (H : AH) : C E0 (.call 133 [.lit (.slice none 0 0), .lit (.int .i64 x)]) H (fun v H' => H' = H ∧ v = .lit (.bool false)) := by
  refine C_call hk133 ft133 rfl rfl rfl ?_
  simp [MT_det (index_nil _ _)]
theorem shas_nil (v o : Int) (H : AH) : C E0 (.call 76 [.lit (.pointer none), .lit (.int .i64 v), .lit (.int .i64 o)]) H (fun v H' => H' = H ∧ v = .lit (.bool false)) := by
  refine C_call hk76 ft76 rfl rfl rfl ?_
  simp [MT_det (svar_nil _ _), MT_det (contains_nil _ _)]
theorem scallees_nil (a b c : Int) (H : AH) : C E0 (.call 77 [.lit (.pointer none), .agg [.lit (.int .i64 a), .lit (.int .i64 b), .lit (.int .i64 c)]]) H (fun v H' => H' = H.add (.cells 3 (Tr.e.puts 0 [.lit (.int .i64 a), .lit (.int .i64 b), .lit (.int .i64 c)]) false) ∧ v = .lit (.slice none 0 0)) := by
  refine C_call hk77 ft77 rfl rfl rfl ?_
  simp
theorem smem_nil (a b c o : Int) (H : AH) : C E0 (.call 78 [.lit (.pointer none), .agg [.lit (.int .i64 a), .lit (.int .i64 b), .lit (.int .i64 c)], .lit (.int .i64 o)]) H (fun v H' => H' = H.add (.cells 3 (Tr.e.puts 0 [.lit (.int .i64 a), .lit (.int .i64 b), .lit (.int .i64 c)]) false) ∧ v = .lit (.slice none 0 0)) := by
  refine C_call hk78 ft78 rfl rfl rfl ?_
  simp
end Go.Proofs.YtclljjfkaljdnaaGreatDoor
