/- CellKeeps: the readings of the arguments. -/
import Derived.Test.YtcecllgmhpbehaaC10
import Derived.Test.YtcecllgmhpbehaaRds
namespace Go.Proofs.Ytcecllgmhpbehaa
open Go.RowKit Go.ChangeShapes Go.WideShapes

theorem cv_row {H : Type} {enc : TypeId × Value → H} {W : World} {n : Nat} {r : List Value} {y : DataW H × List MemPlace} (h : DataW.trod enc Try.prog W 0 (fun _ => true) true n 24 r = some y) : ∃ c : Cv, r = c.cells := by
  obtain ⟨y0, y1, y2, m, _, hl, g0, g1, g2⟩ := Go.Deep.trod_struct3 Try.underlying24 h
  obtain ⟨a, e0, _, _⟩ := DataW.trod_int Try.underlying5 g0
  obtain ⟨b, e1, _, _⟩ := DataW.trod_int Try.underlying3 g1
  obtain ⟨c, e2, _, _⟩ := DataW.trod_int Try.underlying3 g2
  refine ⟨⟨a, b, c⟩, ?_⟩
  have c3 : Try.prog.cellsOf 3 = 1 := by kernel_rfl
  have c5 : Try.prog.cellsOf 5 = 1 := by kernel_rfl
  rw [show Try.prog.cellsOf 24 = 3 by kernel_rfl] at hl
  match r, hl with
  | [x0, x1, x2], _ =>
    simp [c3, c5] at e0 e1 e2
    simp [Cv.cells, e0, e1, e2]

theorem cv_arg {H : Type} {enc : TypeId × Value → H} {W : World} {base : Nat} {v : Value} {d : DataW H} {p : List MemPlace}
    (o : Value.okWide Try.prog W .any base 24 v) (h : DataW.Trod enc Try.prog W 0 (fun _ => true) true 24 v d p) : ∃ c : Cv, v = .agg #[.int .u8 c.k, .int .i64 c.o, .int .i64 c.n] := by
  obtain ⟨cs, rfl, hs⟩ := okWide_struct Try.underlying24 o
  obtain ⟨n, hn⟩ := h
  obtain ⟨c, hc⟩ := cv_row hn
  refine ⟨c, ?_⟩
  have : cs.toList = c.cells := by
    have e : (Value.agg cs).cells = cs := by simp [Value.cells]
    rw [e] at hc
    exact hc
  rw [show cs = c.cells.toArray by rw [← this]]
  rfl

theorem ac_row {H : Type} {enc : TypeId × Value → H} {W : World} {n : Nat} {r : List Value} {y : DataW H × List MemPlace} (hr : r.length = 9) (h : DataW.trod enc Try.prog W 0 (fun _ => true) true n 29 r = some y) : ∃ c : AC, r = c.cells := by
  obtain ⟨xs, m, _, _, hl, hlen, hf⟩ := DataW.trod_struct Try.underlying29 h
  have c3 : Try.prog.cellsOf 3 = 1 := by kernel_rfl
  have c24 : Try.prog.cellsOf 24 = 3 := by kernel_rfl
  match xs, hlen with
  | [y0, y1, y2, y3, y4], _ =>
    have g0 := hf 0 _ rfl
    have g1 := hf 1 _ rfl
    have g2 := hf 2 _ rfl
    have g3 := hf 3 _ rfl
    have g4 := hf 4 _ rfl
    simp only [List.getElem?_cons_zero, List.getElem?_cons_succ] at g0 g1 g2 g3 g4
    obtain ⟨a, e0, _, _⟩ := DataW.trod_int Try.underlying3 g0
    obtain ⟨b, e1, _, _⟩ := DataW.trod_int Try.underlying3 g1
    obtain ⟨c, e2, _, _⟩ := DataW.trod_int Try.underlying3 g2
    obtain ⟨p, e3⟩ := cv_row g3
    obtain ⟨v, e4⟩ := cv_row g4
    refine ⟨⟨a, b, c, p, v⟩, ?_⟩
    match r, hr with
    | [x0, x1, x2, x3, x4, x5, x6, x7, x8], _ =>
      simp [c3, c24, Cv.cells] at e0 e1 e2 e3 e4
      obtain ⟨e3, e3', e3''⟩ := e3
      obtain ⟨e4, e4', e4''⟩ := e4
      simp [AC.cells, e0, e1, e2, e3, e3', e3'', e4, e4', e4'']

theorem keeps_reads {H : Type} {enc : TypeId × Value → H} (W : World) (base : Nat) {v0 v1 v2 : Value} {d0 d1 d2 : DataW H} {p0 p1 p2 : List MemPlace}
    (o0 : Value.okWide Try.prog W .any base 22 v0) (h0 : DataW.Trod enc Try.prog W 0 (fun _ => true) true 22 v0 d0 p0)
    (o1 : Value.okWide Try.prog W .any base 24 v1) (h1 : DataW.Trod enc Try.prog W 0 (fun _ => true) true 24 v1 d1 p1)
    (o2 : Value.okWide Try.prog W .any base 24 v2) (h2 : DataW.Trod enc Try.prog W 0 (fun _ => true) true 24 v2 d2 p2) :
    Calls Try.prog 3 #[v0, v1, v2] W fun e w' => e = .returned (.bool true) ∧ Chg (fun _ => False) W w' := by
  obtain ⟨p, rfl⟩ := cv_arg o1 h1
  obtain ⟨v, rfl⟩ := cv_arg o2 h2
  obtain ⟨rows, hr, hrows⟩ := rd_rows Try.underlying22 (show Try.prog.cellsOf 29 = 9 by kernel_rfl) (by decide) o0 h0
  obtain ⟨l, rfl⟩ : ∃ l : List AC, rows = l.map AC.cells := by
    refine exists_map rows (fun r hr => ?_)
    obtain ⟨hl, n, y, hy⟩ := hrows r hr
    exact ac_row hl hy
  rw [List.length_map, ← List.flatMap_def] at hr
  by_cases hn : l.length ≤ 100
  · exact keeps_small v0 l p v W hr hn
  · obtain ⟨_, _, ad, cap, rfl, _⟩ := hr
    exact keeps_big l.length cap ad p v W (by omega)
end Go.Proofs.Ytcecllgmhpbehaa
