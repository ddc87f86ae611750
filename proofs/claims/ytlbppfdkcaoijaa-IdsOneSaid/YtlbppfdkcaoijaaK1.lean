/- The keys of several cells: api.Point, [2]uint8. -/
import Derived.Test.YtlbppfdkcaoijaaA1
import Derived.Test.YtlbppfdkcaoijaaFam
namespace Go.Proofs.Ytlbppfdkcaoijaa
open Go.RowKit

structure Pt where
  a : Int
  b : Int
  c : Int
  deriving DecidableEq
def Pt.cells (p : Pt) : List Value := [.int .i64 p.a, .int .i64 p.b, .int .i64 p.c]
def Pt.enc (p : Pt) : Value := .agg #[.int .i64 p.a, .int .i64 p.b, .int .i64 p.c]
theorem Pt.inj : ∀ p q : Pt, p.enc = q.enc → p = q := by
  rintro ⟨a, b, c⟩ ⟨d, e, f⟩ h
  simp [Pt.enc] at h
  simp [h]

theorem ck1 (e : Bool) (a b c : Int) (w : World) : (Instr.checkKey e 10000 56 (.agg #[.int .i64 a, .int .i64 b, .int .i64 c])).run Try.prog w = .ok () w := by kernel_rfl
theorem ck2 (e : Bool) (a b : Int) (w : World) : (Instr.checkKey e 10000 30 (.agg #[.int .u8 a, .int .u8 b])).run Try.prog w = .ok () w := by kernel_rfl
theorem fields56 : (Try.prog.fieldsOf 56).toList = [{ name := "Func", type := 3, offset := 0, embedded := false, tag := "", pkgPath := "", byteOffset := 0 },
        { name := "Block", type := 3, offset := 1, embedded := false, tag := "", pkgPath := "", byteOffset := 8 },
        { name := "At", type := 3, offset := 2, embedded := false, tag := "", pkgPath := "", byteOffset := 16 }] := by kernel_rfl
theorem part3_0 (x y z : Value) (w : World) : (part 3 #[x, y, z] 0).run Try.prog w = .ok x w := by kernel_rfl
theorem part3_1 (x y z : Value) (w : World) : (part 3 #[x, y, z] 1).run Try.prog w = .ok y w := by kernel_rfl
theorem part3_2 (x y z : Value) (w : World) : (part 3 #[x, y, z] 2).run Try.prog w = .ok z w := by kernel_rfl
theorem eq1 (a b c d e f : Int) (w : World) : (Op.equal 56 (.agg #[.int .i64 a, .int .i64 b, .int .i64 c]) (.agg #[.int .i64 d, .int .i64 e, .int .i64 f])).run Try.prog w = .ok (a == d && b == e && c == f) w := by
  unfold Op.equal Op.maxDepth
  rw [run_equalIn_struct w 9999 56 _ _ (by kernel_rfl) (by kernel_rfl), fields56]
  simp only [Op.eqFields, Sem.run_bind, Sem.run_ite, part3_0, part3_1, part3_2, Result.andThen_ok, run_equalIn_int w 9998 3 .i64 .i64 _ _ Try.underlying3, Sem.run_pure]
  cases h1 : (a == d) <;> cases h2 : (b == e) <;> cases h3 : (c == f) <;> simp
theorem part5_0 (x y : Value) (w : World) : (part 5 #[x, y] 0).run Try.prog w = .ok x w := by kernel_rfl
theorem part5_1 (x y : Value) (w : World) : (part 5 #[x, y] 1).run Try.prog w = .ok y w := by kernel_rfl
theorem size5 (w : World) : (sizeOf 5).run Try.prog w = .ok 1 w := by kernel_rfl
theorem eq2 (a b d e : Int) (w : World) : (Op.equal 30 (.agg #[.int .u8 a, .int .u8 b]) (.agg #[.int .u8 d, .int .u8 e])).run Try.prog w = .ok (a == d && b == e) w := by
  unfold Op.equal Op.maxDepth Op.equalIn
  simp only [Sem.run_bind, run_underlying Try.underlying30, Result.andThen_ok, size5]
  simp only [Std.Legacy.Range.forIn_eq_forIn_range']
  simp [List.range'] 
  simp only [Sem.run_bind, Sem.run_ite, part5_0, part5_1, Result.andThen_ok, run_equalIn_int w 9998 5 .u8 .u8 _ _ Try.underlying5, Sem.run_pure]
  cases h1 : (a == d) <;> cases h2 : (b == e) <;> simp

theorem koP : KeyOK Try.prog 56 (fun v => ∃ p : Pt, v = p.enc) := by
  refine keyOK_asking Try.underlying56 ?_ ?_ ?_ ?_
  · rintro k v ⟨p, rfl⟩ ⟨q, rfl⟩; rfl
  · rintro e v w ⟨p, rfl⟩; exact ck1 e _ _ _ w
  · rintro k v w ⟨p, rfl⟩ ⟨q, rfl⟩
    refine ⟨_, eq1 _ _ _ _ _ _ w, ?_⟩
    simp only [Bool.and_eq_true, beq_iff_eq]
    constructor
    · rintro ⟨⟨h1, h2⟩, h3⟩; simp [Pt.enc, h1, h2, h3]
    · intro h; have := Pt.inj _ _ h; subst this; simp
  · rintro v ⟨p, rfl⟩; simp [Pt.enc, Instr.sameBits]

structure Ar where
  a : Int
  b : Int
  deriving DecidableEq
def Ar.cells (p : Ar) : List Value := [.int .u8 p.a, .int .u8 p.b]
def Ar.enc (p : Ar) : Value := .agg #[.int .u8 p.a, .int .u8 p.b]
theorem Ar.inj : ∀ p q : Ar, p.enc = q.enc → p = q := by
  rintro ⟨a, b⟩ ⟨d, e⟩ h
  simp [Ar.enc] at h
  simp [h]
theorem koA : KeyOK Try.prog 30 (fun v => ∃ p : Ar, v = p.enc) := by
  refine keyOK_asking Try.underlying30 ?_ ?_ ?_ ?_
  · rintro k v ⟨p, rfl⟩ ⟨q, rfl⟩; rfl
  · rintro e v w ⟨p, rfl⟩; exact ck2 e _ _ w
  · rintro k v w ⟨p, rfl⟩ ⟨q, rfl⟩
    refine ⟨_, eq2 _ _ _ _ w, ?_⟩
    simp only [Bool.and_eq_true, beq_iff_eq]
    constructor
    · rintro ⟨h1, h2⟩; simp [Ar.enc, h1, h2]
    · intro h; have := Ar.inj _ _ h; subst this; simp
  · rintro v ⟨p, rfl⟩; simp [Ar.enc, Instr.sameBits]
end Go.Proofs.Ytlbppfdkcaoijaa
