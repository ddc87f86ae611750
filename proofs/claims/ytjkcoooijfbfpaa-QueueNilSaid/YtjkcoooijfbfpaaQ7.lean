/- QueueNil. -/
import Derived.Test.YtjkcoooijfbfpaaQ6
namespace Go.Proofs.Ytjkcoooijfbfpaa
open Go.RowKit Go.Shelf

theorem run_mkI : ∃ B : Array Value, B.toList = List.replicate 65537 (.int .i64 0) ∧ ∀ w : World, (Instr.makeSlice 27 (.int .i64 65537) (.int .i64 65537)).run Try.prog w = .ok (.slice (some ⟨w.heap.size, 0, none⟩) 65537 65537) (w.alloc (.cells B 3)) := by
  obtain ⟨i0, hi0, hz0, hz1, hz2⟩ := info_parts info3
  refine ⟨madeCells (Value.int .i64 0).cells (65537 * 1), ?_, fun w => ?_⟩
  · exact toList_madeCells_one _ _
  · have := run_make (P := Try.prog) w 27 3 i0 _ Try.underlying27 hi0 hz0 .i64 .i64 65537 65537 (by omega) (by omega) (by rw [hz2]; omega) (by omega)
    rw [hz1] at this
    exact this

theorem repl_set {α : Type} (n : Nat) (z u : α) : ((List.replicate (n + 2) z).set (n + 1) u).set n u = List.replicate n z ++ [u, u] := by
  induction n with
  | zero => rfl
  | succ n ih => rw [show n + 1 + 2 = (n + 2) + 1 by omega, List.replicate_succ, List.set_cons_succ, List.set_cons_succ, ih, List.replicate_succ]; rfl

theorem big_list (n : Nat) {B : Array Value} (hB : B.toList = List.replicate (n + 2) (.int .i64 0)) :
    (B.setIfInBounds (n + 1) (.int .i64 1)).setIfInBounds n (.int .i64 1) = ((List.replicate n (0 : Int) ++ [1, 1]).map (Value.int .i64)).toArray := by
  apply Array.toList_inj.1
  rw [Array.toList_setIfInBounds, Array.toList_setIfInBounds, hB, repl_set n, List.map_append, List.map_replicate]
  rfl
theorem big_len (n : Nat) : (List.replicate n (0 : Int) ++ [1, 1]).length = n + 2 := by simp
theorem big_take (n : Nat) : (List.replicate n (0 : Int) ++ [1, 1]).take (n + 1) = List.replicate n (0 : Int) ++ [1] := by
  rw [List.take_append, List.length_replicate, List.take_of_length_le (by simp), show n + 1 - n = 1 by omega]; rfl
def n0 (ps : List Int) (tk : Nat) : Qs := ⟨[false, false, false], ps, tk⟩
def n1 (ps : List Int) (tk : Nat) : Qs := ⟨[true, false, false], ps, tk⟩
def n2 (ps : List Int) (tk : Nat) : Qs := ⟨[true, true, false], ps, tk⟩
theorem n0_may (ps : List Int) (tk : Nat) : (n0 ps tk).may 0 = true := rfl
theorem n0_add (ps : List Int) (tk : Nat) : (n0 ps tk).add 0 = n1 ps tk := rfl
theorem n1_may (ps : List Int) (tk : Nat) : (n1 ps tk).may 1 = true := rfl
theorem n1_add (ps : List Int) (tk : Nat) : (n1 ps tk).add 1 = n2 ps tk := rfl
theorem n1_next (ps : List Int) (tk : Nat) : (n1 (0 :: ps) tk).next = 0 := rfl
theorem n1_took (ps : List Int) (tk : Nat) : (n1 (0 :: ps) tk).took = n0 ps (tk + 1) := rfl
theorem n2_next (tk : Nat) : (n2 [1] tk).next = 1 := rfl
theorem n2_took (tk : Nat) : (n2 [1] tk).took = n1 [] (tk + 1) := rfl
theorem n2_next' (tk : Nat) : (n2 [] tk).next = 0 := rfl

set_option maxHeartbeats 2000000 in
theorem nil_reads0 (i : Int) (w : World) : Calls Try.prog 3 #[.int .i64 i] w fun e w' => e = .returned (.bool true) ∧ Chg (fun _ => False) w w' := by
  obtain ⟨B, hB, hrun⟩ := run_mkI
  have HB := Lib.hid hB
  clear hB
  have g1 : B[65536]? = some (.int .i64 0) := by rw [← Array.getElem?_toList, HB.out, List.getElem?_replicate]; simp
  have g2 : B[65535]? = some (.int .i64 0) := by rw [← Array.getElem?_toList, HB.out, List.getElem?_replicate]; simp
  go_enter Try.func3, Try.ntmps3
  go_wp2_with fail
  refine (takeNo none _ lenNil).mono ?_
  rintro e w1 ⟨rfl, c1⟩
  go_wp2_with fail
  refine (addNil i _).mono ?_
  rintro e w2 ⟨rfl, rfl⟩
  go_wp2_with fail
  refine (waitsNil i _).mono ?_
  rintro e w2 ⟨rfl, rfl⟩
  go_wp2_with fail
  refine (lenNil _).mono ?_
  rintro e w2 ⟨rfl, rfl⟩
  go_wp2_with fail
  refine (takenNil _).mono ?_
  rintro e w2 ⟨rfl, rfl⟩
  go_wp2_with fail
  obtain ⟨ps, hps⟩ : ∃ ps, ps = List.replicate 65535 (0 : Int) ++ [1, 1] := ⟨_, rfl⟩
  have hpl : ps.length = 65537 := by rw [hps]; exact big_len 65535
  have hpt : ps.take 65536 = List.replicate 65535 (0 : Int) ++ [1] := by rw [hps]; exact big_take 65535
  have hR := rd_lit w1 ps (by omega) 3
  rw [hps, ← big_list 65535 HB.out, ← hps, hpl] at hR
  rw [show (65537 : Nat) = ps.length from hpl.symm] at hR
  have HR := Lib.hid hR
  have Hpl := Lib.hid hpl
  have Hpt := Lib.hid hpt
  have HC1 := Lib.hid c1
  clear hps hR hpl hpt g1 g2 hrun c1
  generalize hw2 : w1.alloc (.cells ((B.setIfInBounds 65536 (Value.int .i64 1)).setIfInBounds 65535 (Value.int .i64 1)) 3) = w2 at *
  have HC2 : Hid (Chg (fun _ => False) w1 w2) := Lib.hid (by rw [← hw2]; exact chg_alloc _ _ _)
  have hnew := newQ 3 _ ps _ _ HR.out (by decide)
  rw [Hpl.out] at hnew
  have Hnew := Lib.hid hnew
  clear hnew hw2
  refine Hnew.out.mono ?_
  rintro e w3 ⟨p, F, rfl, q3, c3, f3⟩
  rw [show Qs.new 3 ps = n0 (List.replicate 65535 (0 : Int) ++ [1]) 0 by unfold Qs.new; rw [Hpt.out]; rfl] at q3
  have Q3 := Lib.hid q3
  have C3 := Lib.hid c3
  have F3 := Lib.hid f3
  clear q3 c3 f3
  go_wp2_with fail
  go_loopw [7] (fun i wr => ∃ k : Nat, k ≤ 65535 ∧ i = .int .i64 k ∧ QAt wr p (n0 (List.replicate (65535 - k) (0 : Int) ++ [1]) k) F ∧ Chg (fun _ => False) w2 wr) (fun i _ => 65535 - (intOf i).toNat)
  case atStart => exact ⟨0, by omega, rfl, Q3.out, C3.out⟩
  case round =>
    obtain ⟨k, hk, rfl, hq, hc⟩ := hrel
    have Hc := Lib.hid hc
    clear hc
    by_cases hlt : k < 65535
    · have hd : decide ((k : Int) < 65535) = true := by simp; omega
      rw [show 65535 - k = (65535 - (k + 1)) + 1 by omega, List.replicate_succ, List.cons_append] at hq
      obtain ⟨rest, hrest⟩ : ∃ rest, rest = List.replicate (65535 - (k + 1)) (0 : Int) ++ [1] := ⟨_, rfl⟩
      rw [← hrest] at hq
      have Hrest := Lib.hid hrest
      clear hrest
      have Hq := Lib.hid hq
      clear hq
      go_wp2_with fail
      refine (addQ p _ F 0 _ Hq.out).mono ?_
      rintro e w4 ⟨rfl, q4, c4⟩
      rw [n0_may]
      rw [n0_add] at q4
      have C4 := Lib.hid c4
      have Q4 := Lib.hid q4
      clear c4 q4
      go_wp2_with fail
      refine (takeYes p _ F _ Q4.out (by show 0 < 1; decide) (by show k ≤ 1000000; omega) (by show 3 ≤ 1000000; decide)).mono ?_
      rintro e w5 ⟨rfl, q5, c5⟩
      rw [n1_next, show ((0 : Nat) : Int) = 0 by rfl]
      rw [n1_took] at q5
      have C5 := Lib.hid c5
      have Q5 := Lib.hid q5
      clear c5 q5
      go_wp2_with fail
      go_roundw
      case rel => exact ⟨k + 1, by omega, by go_num, by rw [← Hrest.out]; exact Q5.out, (Hc.out.then' C4.out (fun b hb e => by have := F3.out b e; omega)).then' C5.out (fun b hb e => by have := F3.out b e; omega)⟩
      case measure => simp [intOf]; omega
    · have hd : decide ((k : Int) < 65535) = false := by simp; omega
      obtain rfl : k = 65535 := by omega
      have Hq : Hid (QAt wr p (n0 [1] 65535) F) := Lib.hid hq
      clear hq
      go_wp2_with fail
      refine (addQ p _ F 0 _ Hq.out).mono ?_
      rintro e w4 ⟨rfl, q4, c4⟩
      rw [n0_may]
      rw [n0_add] at q4
      go_wp2_with fail
      refine (addQ p _ F 1 _ q4).mono ?_
      rintro e w5 ⟨rfl, q5, c5⟩
      rw [n1_may]
      rw [n1_add] at q5
      go_wp2_with fail
      refine (takeYes p _ F _ q5 (by show 0 < 2; decide) (by show 65535 ≤ 1000000; omega) (by show 3 ≤ 1000000; decide)).mono ?_
      rintro e w6 ⟨rfl, q6, c6⟩
      rw [n2_next, show ((1 : Nat) : Int) = 1 by rfl]
      rw [n2_took] at q6
      go_wp2_with fail
      refine (addQ p _ F 1 _ q6).mono ?_
      rintro e w7 ⟨rfl, q7, c7⟩
      rw [n1_add] at q7
      go_wp2_with fail
      refine (takeYes p _ F _ q7 (by show 0 < 2; decide) (by show 65535 + 1 ≤ 1000000; omega) (by show 3 ≤ 1000000; decide)).mono ?_
      rintro e w8 ⟨rfl, q8, c8⟩
      rw [n2_next', show ((0 : Nat) : Int) = 0 by rfl]
      go_wp2_with fail
      refine (wakesQ _).mono ?_
      rintro e w9 ⟨rfl, c9⟩
      go_wp2_with fail
      go_ret
      refine ⟨rfl, (HC1.out.trans HC2.out).trans ?_⟩
      have hF := F3.out
      exact (((((Hc.out.then' c4 (fun b hb e => by have := hF b e; omega)).then' c5 (fun b hb e => by have := hF b e; omega)).then' c6 (fun b hb e => by have := hF b e; omega)).then' c7 (fun b hb e => by have := hF b e; omega)).then' c8 (fun b hb e => by have := hF b e; omega)).trans c9

open Go.ChangeShapes Go.WideShapes in
theorem nil_reads {H : Type} {enc : TypeId × Value → H} (W : World) (base : Nat) {v0 : Value} {d0 : DataW H} {p0 : List MemPlace}
    (o0 : Value.okWide Try.prog W .any base 3 v0) (_h0 : DataW.Trod enc Try.prog W 0 (fun _ => true) true 3 v0 d0 p0) :
    Calls Try.prog 3 #[v0] W fun e w' => e = .returned (.bool true) ∧ Chg (fun _ => False) W w' := by
  obtain ⟨n, rfl⟩ := okWide_int Try.underlying3 o0
  exact nil_reads0 n W
end Go.Proofs.Ytjkcoooijfbfpaa
