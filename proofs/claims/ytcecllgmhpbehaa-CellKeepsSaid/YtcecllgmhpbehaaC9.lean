/- wakes. -/
import Derived.Test.YtcecllgmhpbehaaC8
namespace Go.Proofs.Ytcecllgmhpbehaa
open Go.RowKit

theorem fields24 : (Try.prog.fieldsOf 24).toList = [{ name := "Kind", type := 5, offset := 0, embedded := false, tag := "", pkgPath := "", byteOffset := 0 },
        { name := "Obj", type := 3, offset := 1, embedded := false, tag := "", pkgPath := "", byteOffset := 8 },
        { name := "N", type := 3, offset := 2, embedded := false, tag := "", pkgPath := "", byteOffset := 16 }] := by kernel_rfl
theorem part24_0 (x y z : Value) (w : World) : (part 5 #[x, y, z] 0).run Try.prog w = .ok x w := by kernel_rfl
theorem part24_1 (x y z : Value) (w : World) : (part 3 #[x, y, z] 1).run Try.prog w = .ok y w := by kernel_rfl
theorem part24_2 (x y z : Value) (w : World) : (part 3 #[x, y, z] 2).run Try.prog w = .ok z w := by kernel_rfl
theorem eq24 (a b c d e f : Int) (w : World) : (Op.equal 24 (.agg #[.int .u8 a, .int .i64 b, .int .i64 c]) (.agg #[.int .u8 d, .int .i64 e, .int .i64 f])).run Try.prog w = .ok (a == d && b == e && c == f) w := by
  unfold Op.equal Op.maxDepth
  rw [run_equalIn_struct w 9999 24 _ _ (by kernel_rfl) (by kernel_rfl), fields24]
  simp only [Op.eqFields, Sem.run_bind, Sem.run_ite, part24_0, part24_1, part24_2, Result.andThen_ok, run_equalIn_int w 9998 3 .i64 .i64 _ _ Try.underlying3, run_equalIn_int w 9998 5 .u8 .u8 _ _ Try.underlying5, Sem.run_pure]
  cases h1 : (a == d) <;> cases h2 : (b == e) <;> cases h3 : (c == f) <;> simp
theorem eq24' (x y : Cv) (w : World) : (Op.equal 24 x.enc y.enc).run Try.prog w = .ok (decide (x = y)) w := by
  unfold Cv.enc
  rw [eq24]
  obtain ⟨a, b, c⟩ := x
  obtain ⟨d, e, f⟩ := y
  congr 1
  rw [Bool.eq_iff_iff]
  simp only [Cv.mk.injEq, Bool.and_eq_true, beq_iff_eq, decide_eq_true_iff, and_assoc]

set_option maxHeartbeats 2000000 in
theorem wakesS (w : World) : Calls Try.prog 4 #[] w fun e w' => e = .returned (.bool true) ∧ Chg (fun _ => False) w w' := by
  have heq := eq24
  go_enter Try.func4, Try.ntmps4
  go_wp2_with fail
  refine (new3 w).mono ?_
  rintro e w1 ⟨p, F, rfl, h1, c1, f1⟩
  go_wp2_with fail
  refine (makeOk p [] 3 F 5 2 w1 h1 (by simp [room, cnt]) (by simp)).mono ?_
  rintro e w2 ⟨pb, cb, F2, rfl, h2, c2, f2⟩
  obtain ⟨ob, hob⟩ : ∃ ob : Ob, ob = ⟨pb, cb, 5, List.replicate 2 Cv.zero⟩ := ⟨_, rfl⟩
  rw [← hob] at h2
  rw [List.nil_append] at h2
  go_wp2_with fail
  have h2' := h2.chg (chg_alloc (fun _ => False) w2 (.cells #[.int .u8 1, .int .i64 0, .int .i64 0] 24)) (fun _ _ e => e)
  have b2 := blk_alloc_new w2 (.cells #[.int .u8 1, .int .i64 0, .int .i64 0] 24)
  refine (makeFull p [ob] 3 F2 9 2 _ h2' (by rw [hob]; simp [room, cnt])).mono ?_
  rw [show Cv.zero.enc = .agg #[.int .u8 0, .int .i64 0, .int .i64 0] from rfl]
  rintro e w3 ⟨rfl, c3⟩
  have h3 := h2'.chg (c3.alloc (.cells #[.int .u8 0, .int .i64 0, .int .i64 0] 24)) (fun _ _ e => e)
  have b3 := (c3.alloc (.cells #[.int .u8 0, .int .i64 0, .int .i64 0] 24)).blk b2 (fun e => e)
  have b30 := cell_of_blk (i := 0) b3 rfl
  have b31 := cell_of_blk (i := 1) b3 rfl
  have b32 := cell_of_blk (i := 2) b3 rfl
  have Hc3 := Lib.hid c3
  have Hc2 := Lib.hid c2
  have Hc1 := Lib.hid c1
  have Hf1 := Lib.hid f1
  have Hf2 := Lib.hid f2
  have Hh3 := Lib.hid h3
  have Hob := Lib.hid hob
  clear b2 b3 c3 c2 c1 f1 f2 h3 h2 h1 h2' hob
  go_wp2_with fail
  refine (stepS p [ob] 3 F2 ob Cv.zero Cv.zero _ Hh3.out rfl (by rw [Hob.out]; rfl)).mono ?_
  rintro e w4 ⟨rfl, c4⟩
  have h4 := Hh3.out.chg (c4.alloc (.cells #[.int .u8 1, .int .i64 0, .int .i64 1] 24)) (fun _ _ e => e)
  have b4 := blk_alloc_new w4 (.cells #[.int .u8 1, .int .i64 0, .int .i64 1] 24)
  have b40 := cell_of_blk (i := 0) b4 rfl
  have b41 := cell_of_blk (i := 1) b4 rfl
  have b42 := cell_of_blk (i := 2) b4 rfl
  have Hb4 := Lib.hid b4
  have Hc4 := Lib.hid c4
  have Hh4 := Lib.hid h4
  clear b4 c4 h4 b30 b31 b32
  go_wp2_with fail
  refine (storeS p [ob] 3 F2 ⟨1, 0, 1⟩ ⟨2, 0, 4⟩ _ Hh4.out).mono ?_
  rintro e w5 ⟨rfl, h5, c5⟩
  rw [show stC [ob] ⟨1, 0, 1⟩ = 0 by rw [Hob.out]; rfl]
  rw [show putC [ob] ⟨1, 0, 1⟩ ⟨2, 0, 4⟩ = [⟨pb, cb, 5, [Cv.zero, ⟨2, 0, 4⟩]⟩] by rw [Hob.out]; rfl] at h5
  have b5 := c5.blk Hb4.out (fun e => by have := Hh3.out.lt _ e; have := Hc4.out.size; omega)
  have b50 := cell_of_blk (i := 0) b5 rfl
  have b51 := cell_of_blk (i := 1) b5 rfl
  have b52 := cell_of_blk (i := 2) b5 rfl
  have Hb5 := Lib.hid b5
  have Hc5 := Lib.hid c5
  have Hh5 := Lib.hid h5
  clear b5 c5 h5 b40 b41 b42
  go_wp2_with fail
  refine (loadS p _ 3 F2 ⟨1, 0, 1⟩ _ Hh5.out).mono ?_
  rw [show stC [⟨pb, cb, 5, [Cv.zero, ⟨2, 0, 4⟩]⟩] ⟨1, 0, 1⟩ = 0 by rfl, show ((getC [⟨pb, cb, 5, [Cv.zero, ⟨2, 0, 4⟩]⟩] ⟨1, 0, 1⟩).getD .zero).enc = .agg #[.int .u8 2, .int .i64 0, .int .i64 4] by rfl]
  rintro e w6 ⟨rfl, c6⟩
  have h6 := Hh5.out.chg (c6.alloc (.cells #[.int .u8 2, .int .i64 0, .int .i64 4] 24)) (fun _ _ e => e)
  have b6 := (c6.alloc (.cells #[.int .u8 2, .int .i64 0, .int .i64 4] 24)).blk Hb5.out (fun e => e)
  have v6 := blk_alloc_new w6 (.cells #[.int .u8 2, .int .i64 0, .int .i64 4] 24)
  have b60 := cell_of_blk (i := 0) b6 rfl
  have b61 := cell_of_blk (i := 1) b6 rfl
  have b62 := cell_of_blk (i := 2) b6 rfl
  have Hv6 := Lib.hid v6
  have Hc6 := Lib.hid c6
  have Hh6 := Lib.hid h6
  clear b6 c6 h6 v6 b50 b51 b52
  go_wp2_with fail
  refine (thingS p _ 3 F2 ⟨pb, cb, 5, [Cv.zero, ⟨2, 0, 4⟩]⟩ Cv.zero ⟨2, 0, 4⟩ _ Hh6.out rfl rfl rfl).mono ?_
  rintro e w7 ⟨rfl, c7⟩
  have h7 := Hh6.out.chg c7 (fun _ _ e => e)
  have v7 := c7.blk Hv6.out (fun e => e)
  have v70 := cell_of_blk (i := 0) v7 rfl
  have v71 := cell_of_blk (i := 1) v7 rfl
  have v72 := cell_of_blk (i := 2) v7 rfl
  have Hc7 := Lib.hid c7
  have Hobj := Lib.hid (objsS p _ 3 F2 w7 h7)
  have Hcel := Lib.hid (cellsS p _ 3 F2 w7 h7)
  clear v7 c7 h7 b60 b61 b62
  go_wp2_with fail
  refine Hobj.out.mono ?_
  rintro e w8 ⟨rfl, rfl⟩
  go_wp2_with fail
  refine Hcel.out.mono ?_
  rintro e w8 ⟨rfl, rfl⟩
  go_wp2_with fail
  go_ret
  refine ⟨rfl, ?_⟩
  have q2 : Chg (fun _ => False) w w2 := Hc1.out.then' Hc2.out (fun b hb hf => by have := Hf1.out b hf; omega)
  have q4 : Chg (fun _ => False) w w4 := ((q2.alloc _).trans (Hc3.out.alloc _)).trans Hc4.out
  have q5 : Chg (fun _ => False) w w5 := (q4.alloc _).then' Hc5.out (fun b hb hf => by
    rcases Hf2.out b hf with h | h
    · have := Hf1.out b h; omega
    · have := Hc1.out.size; omega)
  exact ((q5.trans (Hc6.out.alloc _)).trans Hc7.out)
end Go.Proofs.Ytcecllgmhpbehaa
