/- The reading of an int, with its range. -/
import Derived.Test.YtclljjfkaljdnaaGreatDoorRp
namespace Go.Proofs.YtclljjfkaljdnaaGreatDoor
open Go.RowKit Go.ChangeShapes Go.WideShapes
set_option maxRecDepth 100000 in
theorem rd_range {H : Type} {enc : TypeId × Value → H} {W : World} {base : Nat} {v : Value} {d : DataW H} {p : List MemPlace} (o : Value.okWide Go.Proofs.Tryz.prog W .any base 3 v) (h : DataW.Trod enc Go.Proofs.Tryz.prog W 0 (fun _ => true) true 3 v d p) :
    ∃ n : Int, v = .int .i64 n ∧ -9223372036854775808 ≤ n ∧ n ≤ 9223372036854775807 := by
  obtain ⟨n, rfl, _, _, hw⟩ := open_int Go.Proofs.Tryz.underlying3 o h
  refine ⟨n, rfl, ?_⟩
  have e : (Lit.int IntKind.i64 n).wf = (decide ((-9223372036854775808 : Int) ≤ n) && decide (n ≤ 9223372036854775807)) := rfl
  rw [e] at hw
  simpa using hw
end Go.Proofs.YtclljjfkaljdnaaGreatDoor
