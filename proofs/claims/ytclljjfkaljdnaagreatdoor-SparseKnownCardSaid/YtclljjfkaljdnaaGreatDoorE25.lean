/- Key types that are arrays of two ints. No program in sight. -/
import Derived.Test.YtclljjfkaljdnaaGreatDoorE24
import Derived.Laws.StructEq
namespace Go.Proofs.YtclljjfkaljdnaaGreatDoor
open Go.RowKit
section
variable {P : Program} {t e : TypeId} {k : IntKind}
theorem part_two (he : P.underlying e = some (.int k)) (a b : Int) (w : World) :
    (part e #[.int k a, .int k b] 0).run P w = .ok (.int k a) w ∧ (part e #[.int k a, .int k b] 1).run P w = .ok (.int k b) w := by
  constructor <;> (unfold part isAgg; simp only [Sem.run_bind, run_underlying he, Result.andThen_ok, Sem.run_pure, Bool.false_eq_true, if_false]; rfl)
theorem eq_two (hu : P.underlying t = some (.array 2 e)) (he : P.underlying e = some (.int k)) (hs : (P.info? e).map (·.size) = some 1) (a b c d : Int) (w : World) :
    (Op.equal t (.agg #[.int k a, .int k b]) (.agg #[.int k c, .int k d])).run P w = .ok (a == c && b == d) w := by
  obtain ⟨i, hi, hi2⟩ := Option.map_eq_some_iff.1 hs
  have hsz : (sizeOf e).run P w = .ok 1 w := by simp [sizeOf, typeInfo, hi, hi2]
  unfold Op.equal Op.maxDepth Op.equalIn
  simp only [Sem.run_bind, run_underlying hu, Result.andThen_ok, hsz]
  simp only [Std.Legacy.Range.forIn_eq_forIn_range']
  simp [List.range']
  simp only [Sem.run_bind, Sem.run_ite, (part_two he a b w).1, (part_two he a b w).2, (part_two he c d w).1, (part_two he c d w).2, Result.andThen_ok, run_equalIn_int w 9998 e k k _ _ he, Sem.run_pure]
  cases h1 : (a == c) <;> cases h2 : (b == d) <;> simp
theorem ck_one (em : Bool) (n : Nat) (he : P.underlying e = some (.int k)) (a : Int) (w : World) : (Instr.checkKey em (n + 1) e (.int k a)).run P w = .ok () w := by
  unfold Instr.checkKey
  simp only [Sem.run_bind, run_underlying he, Result.andThen_ok]
  rfl
theorem ck_two (em : Bool) (hu : P.underlying t = some (.array 2 e)) (he : P.underlying e = some (.int k)) (hs : (P.info? e).map (·.size) = some 1) (a b : Int) (w : World) :
    (Instr.checkKey em Op.maxDepth t (.agg #[.int k a, .int k b])).run P w = .ok () w := by
  obtain ⟨i, hi, hi2⟩ := Option.map_eq_some_iff.1 hs
  have hsz : (sizeOf e).run P w = .ok 1 w := by simp [sizeOf, typeInfo, hi, hi2]
  unfold Op.maxDepth Instr.checkKey
  simp only [Sem.run_bind, run_underlying hu, Result.andThen_ok, hsz]
  simp only [Std.Legacy.Range.forIn_eq_forIn_range']
  simp [List.range']
  have c1 := ck_one em 9998 he a w
  have c2 := ck_one em 9998 he b w
  simp only [Nat.reduceAdd] at c1 c2
  simp only [Sem.run_bind, hsz, (part_two he a b w).1, (part_two he a b w).2, Result.andThen_ok, c1, c2]
theorem areKC_two {v : List Value} (h : areKC [.i k, .i k] v = true) : ∃ a b, v = [.int k a, .int k b] := by
  rcases v with _ | ⟨x, _ | ⟨y, _ | ⟨_, _⟩⟩⟩ <;> first | (have := areKC_len h; simp at this; done) | skip
  rw [areKC_cons] at h
  obtain ⟨h1, h⟩ := boolC_ff h
  rw [areKC_cons] at h
  obtain ⟨h2, _⟩ := boolC_ff h
  obtain ⟨a, rfl⟩ := isKC_int h1
  obtain ⟨b, rfl⟩ := isKC_int h2
  exact ⟨a, b, rfl⟩
theorem eqKV_two (a b c d : Int) : eqKV (.agg #[.int k a, .int k b]) (.agg #[.int k c, .int k d]) = (a == c && b == d) := by
  show eqL [.int k a, .int k b] [.int k c, .int k d] = _
  rw [eqL_cons, eqL_cons, eqS_int, eqS_int]
  cases a == c <;> cases b == d <;> rfl
theorem keyFacts_two (hu : P.underlying t = some (.array 2 e)) (he : P.underlying e = some (.int k)) (hs : (P.info? e).map (·.size) = some 1) (hg : P.eqGuardType P.depth t = false) : KeyFacts P t (.agg [.i k, .i k]) := by
  have kp : ∀ v, KP (.agg [.i k, .i k]) v → ∃ a b, v = .agg #[.int k a, .int k b] := by
    rintro v ⟨xs, rfl, h⟩
    obtain ⟨a, b, rfl⟩ := areKC_two h
    exact ⟨a, b, rfl⟩
  refine ⟨keyOK_asking hu (fun u v hk hv => ?_) (fun em v w hk => ?_) (fun u v w hk hv => ?_) (fun v hk => ?_), fun x y w hx hy => ?_, hg⟩
  · obtain ⟨a, b, rfl⟩ := kp _ hk
    obtain ⟨c, d, rfl⟩ := kp _ hv
    rfl
  · obtain ⟨a, b, rfl⟩ := kp _ hk
    exact ck_two em hu he hs a b w
  · obtain ⟨a, b, rfl⟩ := kp _ hk
    obtain ⟨c, d, rfl⟩ := kp _ hv
    refine ⟨_, eq_two hu he hs _ _ _ _ w, ?_⟩
    simp only [Bool.and_eq_true, beq_iff_eq]
    constructor
    · rintro ⟨h1, h2⟩; simp [h1, h2]
    · intro h; simp at h; simp [h]
  · obtain ⟨a, b, rfl⟩ := kp _ hk
    simp [Instr.sameBits]
  · obtain ⟨a, b, rfl⟩ := kp _ hx
    obtain ⟨c, d, rfl⟩ := kp _ hy
    rw [eqKV_two]
    exact eq_two hu he hs _ _ _ _ w
/-- The same by one look. -/
def keyB2 (P : Program) (t : TypeId) (ks : KS) : Bool :=
  match P.underlying t with
  | some (.array 2 e) => (match ks with
    | .agg [.i k, .i k'] => decide (k = k') && (match P.underlying e with | some (.int j) => decide (j = k) | _ => false) && decide ((P.info? e).map (·.size) = some 1) && !P.eqGuardType P.depth t
    | _ => false)
  | _ => keyB P t ks
theorem keyB2_ok {ks : KS} (h : keyB2 P t ks = true) : KeyFacts P t ks := by
  unfold keyB2 at h
  split at h
  · rename_i e hu
    split at h
    · rename_i k k'
      simp only [Bool.and_eq_true, decide_eq_true_iff, Bool.not_eq_true'] at h
      obtain ⟨⟨⟨rfl, h2⟩, h3⟩, h4⟩ := h
      split at h2
      · rename_i j he
        have : j = k := by simpa using h2
        subst this
        exact keyFacts_two hu he h3 h4
      · cases h2
    · cases h
  · exact keyB_ok h
end
end Go.Proofs.YtclljjfkaljdnaaGreatDoor
