/- The readings of a law's arguments: ints, points, nodes. -/
import Derived.Test.YtclljjfkaljdnaaGreatDoorLa
import Derived.ChangeOld
import Derived.Deep.Strs
namespace Go.Proofs.YtclljjfkaljdnaaGreatDoor
open Go.RowKit Go.ChangeShapes Go.WideShapes
section
variable {H : Type} {enc : TypeId × Value → H} {W : World} {base : Nat} {v : Value} {d : DataW H} {p : List MemPlace}
set_option maxRecDepth 100000 in
theorem rd_int (o : Value.okWide Go.Proofs.Tryz.prog W .any base 3 v) (h : DataW.Trod enc Go.Proofs.Tryz.prog W 0 (fun _ => true) true 3 v d p) : ∃ n : Int, v = .int .i64 n := by
  obtain ⟨n, rfl, _⟩ := open_int Go.Proofs.Tryz.underlying3 o h
  exact ⟨n, rfl⟩
set_option maxRecDepth 100000 in
theorem pt_row {n : Nat} {r : List Value} {y : DataW H × List MemPlace} (h : DataW.trod enc Go.Proofs.Tryz.prog W 0 (fun _ => true) true n 23 r = some y) : ∃ a b c : Int, r = [.int .i64 a, .int .i64 b, .int .i64 c] := by
  obtain ⟨y0, y1, y2, m, _, hl, g0, g1, g2⟩ := Go.Deep.trod_struct3 Go.Proofs.Tryz.underlying23 h
  obtain ⟨a, e0, _, _⟩ := DataW.trod_int Go.Proofs.Tryz.underlying3 g0
  obtain ⟨b, e1, _, _⟩ := DataW.trod_int Go.Proofs.Tryz.underlying3 g1
  obtain ⟨c, e2, _, _⟩ := DataW.trod_int Go.Proofs.Tryz.underlying3 g2
  refine ⟨a, b, c, ?_⟩
  have c3 : Go.Proofs.Tryz.prog.cellsOf 3 = 1 := by kernel_rfl
  rw [show Go.Proofs.Tryz.prog.cellsOf 23 = 3 by kernel_rfl] at hl
  match r, hl with
  | [x0, x1, x2], _ =>
    simp [c3] at e0 e1 e2
    simp [e0, e1, e2]
set_option maxRecDepth 100000 in
theorem rd_pt (o : Value.okWide Go.Proofs.Tryz.prog W .any base 23 v) (h : DataW.Trod enc Go.Proofs.Tryz.prog W 0 (fun _ => true) true 23 v d p) : ∃ a b c : Int, v = .agg #[.int .i64 a, .int .i64 b, .int .i64 c] := by
  obtain ⟨cs, rfl, hs⟩ := okWide_struct Go.Proofs.Tryz.underlying23 o
  obtain ⟨n, hn⟩ := h
  obtain ⟨a, b, c, hc⟩ := pt_row hn
  refine ⟨a, b, c, ?_⟩
  have e : (Value.agg cs).cells = cs := by simp [Value.cells]
  rw [e] at hc
  obtain ⟨l⟩ := cs
  rw [show l = _ from hc]
set_option maxRecDepth 100000 in
theorem rd_nd (o : Value.okWide Go.Proofs.Tryz.prog W .any base 67 v) (h : DataW.Trod enc Go.Proofs.Tryz.prog W 0 (fun _ => true) true 67 v d p) :
    ∃ k a b x y z : Int, v = .agg #[.int .u8 k, .int .i64 a, .int .i64 b, .int .i64 x, .int .i64 y, .int .i64 z] := by
  obtain ⟨cs, rfl, hs⟩ := okWide_struct Go.Proofs.Tryz.underlying67 o
  obtain ⟨n, hn⟩ := h
  obtain ⟨xs, m, _, _, hl, hlen, hf⟩ := DataW.trod_struct Go.Proofs.Tryz.underlying67 hn
  have e : (Value.agg cs).cells = cs := by simp [Value.cells]
  rw [e] at hl hf
  have c3 : Go.Proofs.Tryz.prog.cellsOf 3 = 1 := by kernel_rfl
  have c5 : Go.Proofs.Tryz.prog.cellsOf 5 = 1 := by kernel_rfl
  have c23 : Go.Proofs.Tryz.prog.cellsOf 23 = 3 := by kernel_rfl
  rw [show Go.Proofs.Tryz.prog.cellsOf 67 = 6 by kernel_rfl] at hl
  match xs, hlen with
  | [y0, y1, y2, y3], _ =>
    have g0 := hf 0 _ rfl
    have g1 := hf 1 _ rfl
    have g2 := hf 2 _ rfl
    have g3 := hf 3 _ rfl
    simp only [List.getElem?_cons_zero, List.getElem?_cons_succ] at g0 g1 g2 g3
    obtain ⟨k, e0, _, _⟩ := DataW.trod_int Go.Proofs.Tryz.underlying5 g0
    obtain ⟨a, e1, _, _⟩ := DataW.trod_int Go.Proofs.Tryz.underlying3 g1
    obtain ⟨b, e2, _, _⟩ := DataW.trod_int Go.Proofs.Tryz.underlying3 g2
    obtain ⟨x, y, z, e3⟩ := pt_row g3
    refine ⟨k, a, b, x, y, z, ?_⟩
    obtain ⟨l⟩ := cs
    match l, hl with
    | [x0, x1, x2, x3, x4, x5], _ =>
      simp [c3, c5, c23] at e0 e1 e2 e3
      simp [e0, e1, e2, e3]
end
end Go.Proofs.YtclljjfkaljdnaaGreatDoor
