/- Key types: ints, strings, structs of such, structs in structs. No program in sight. -/
import Derived.Test.YtclljjfkaljdnaaGreatDoorE22
import Derived.Laws.StructEq
namespace Go.Proofs.YtclljjfkaljdnaaGreatDoor
open Go.RowKit

def shpF (P : Program) (rec : TypeId → Option (List KC)) : List Field → Nat → Option (List KC)
  | [], _ => some []
  | f :: fs, off =>
    if f.name = "_" ∨ f.offset ≠ off then none
    else match rec f.type with
      | none => none
      | some cs => if (P.info? f.type).map (·.size) ≠ some cs.length then none else (shpF P rec fs (off + cs.length)).map (cs ++ ·)
/-- A key type's cells. -/
def shp (P : Program) : Nat → TypeId → Option (List KC)
  | 0, _ => none
  | d + 1, t =>
    match P.underlying t with
    | some (.int k) => some [.i k]
    | some .string => some [.s]
    | some (.struct fs) => if P.stoodInHeld t = true then none else shpF P (shp P d) fs.toList 0
    | _ => none
def valT (P : Program) (t : TypeId) (xs : List Value) : Value :=
  match P.underlying t with
  | some (.struct _) => .agg ⟨xs⟩
  | _ => xs.headD undef

theorem areKC_len : ∀ {cs : List KC} {xs : List Value}, areKC cs xs = true → xs.length = cs.length
  | [], [], _ => rfl
  | [], _ :: _, h => by cases h
  | _ :: _, [], h => by cases h
  | c :: cs, x :: xs, h => by
    rw [areKC_cons] at h
    obtain ⟨_, h⟩ := boolC_ff h
    simp [areKC_len h]
theorem areKC_append : ∀ {c1 c2 : List KC} {xs : List Value}, areKC (c1 ++ c2) xs = true → areKC c1 (xs.take c1.length) = true ∧ areKC c2 (xs.drop c1.length) = true
  | [], c2, xs, h => ⟨rfl, by simpa using h⟩
  | c :: c1, c2, [], h => by cases h
  | c :: c1, c2, x :: xs, h => by
    have h' : areKC (c :: (c1 ++ c2)) (x :: xs) = true := h
    rw [areKC_cons] at h'
    obtain ⟨h1, h'⟩ := boolC_ff h'
    obtain ⟨h2, h3⟩ := areKC_append (c1 := c1) h'
    refine ⟨?_, by simpa using h3⟩
    simp only [List.length_cons, List.take_succ_cons]
    rw [areKC_cons, h1]; exact h2
theorem eqL_append : ∀ {a a' b b' : List Value}, a.length = a'.length → eqL (a ++ b) (a' ++ b') = boolC false (eqL b b') (eqL a a')
  | [], [], b, b', _ => rfl
  | [], _ :: _, _, _, h => by cases h
  | _ :: _, [], _, _, h => by cases h
  | x :: a, y :: a', b, b', h => by
    simp only [List.cons_append]
    rw [eqL_cons, eqL_cons, eqL_append (by simpa using h)]
    cases eqS x y <;> rfl

section
variable {P : Program}
theorem isKC_int {k : IntKind} {v : Value} (h : isKC (.i k) v = true) : ∃ n, v = .int k n := by
  unfold isKC at h
  split at h
  · rename_i e; cases e
    rename_i j n
    have : j = k := by simpa using h
    exact ⟨n, by rw [this]⟩
  · rename_i e; cases e
  · rename_i e; cases e
  · cases h
theorem isKC_str {v : Value} (h : isKC .s v = true) : ∃ s, v = .string s := by
  unfold isKC at h
  split at h
  · rename_i e; cases e
  · exact ⟨_, rfl⟩
  · rename_i e; cases e
  · cases h
theorem eqS_int (k : IntKind) (a b : Int) : eqS (.int k a) (.int k b) = (a == b) := by
  unfold eqS
  simp [boolC_true, eqI_eq]
theorem eqS_str (a b : ByteArray) : eqS (.string a) (.string b) = (a.toList == b.toList) := by
  show eqB a.data.toList b.data.toList = _
  rw [eqB_eq, bytes_toList, bytes_toList]

/-- The part of a struct's cells. -/
theorem run_partT {t : TypeId} {cs : List KC} {d : Nat} (hs : shp P d t = some cs) (hz : (P.info? t).map (·.size) = some cs.length) {xs : List Value} {off : Nat} (hx : areKC cs ((xs.drop off).take cs.length) = true) (w : World) :
    (part t ⟨xs⟩ off).run P w = .ok (valT P t ((xs.drop off).take cs.length)) w := by
  have hlen := areKC_len hx
  obtain ⟨i, hi, hi2⟩ := Option.map_eq_some_iff.1 hz
  cases d with
  | zero => cases hs
  | succ d =>
    unfold shp at hs
    unfold part isAgg valT
    cases hu : P.underlying t with
    | none => rw [hu] at hs; cases hs
    | some kd =>
      rw [hu] at hs
      have one : cs.length = 1 → xs[off]? = some (((xs.drop off).take cs.length).headD undef) := by
        intro h1
        rw [h1] at hlen ⊢
        have : (xs.drop off)[0]? = xs[off]? := by rw [List.getElem?_drop]; simp
        rw [← this]
        cases hd : xs.drop off with
        | nil => rw [hd] at hlen; simp at hlen
        | cons y ys => rfl
      cases kd <;> first | (cases hs; done) | skip
      · rename_i k
        cases hs
        have h1 := one rfl
        simp only [Sem.run_bind, run_underlying hu, Result.andThen_ok, Sem.run_pure, Bool.false_eq_true, if_false, List.getElem?_toArray, h1]
      · cases hs
        have h1 := one rfl
        simp only [Sem.run_bind, run_underlying hu, Result.andThen_ok, Sem.run_pure, Bool.false_eq_true, if_false, List.getElem?_toArray, h1]
      · have hsz : (sizeOf t).run P w = .ok cs.length w := by simp [sizeOf, typeInfo, hi, hi2]
        simp only [Sem.run_bind, run_underlying hu, Result.andThen_ok, Sem.run_pure, if_true, hsz]
        congr 2
        apply Array.ext'
        rw [Array.toList_extract]
        simp [List.extract_eq_take_drop]

theorem eq_shp : ∀ (d : Nat) (t : TypeId) (cs : List KC), shp P d t = some cs → ∀ (dd : Nat) (w : World) (xs ys : List Value), areKC cs xs = true → areKC cs ys = true → (Op.equalIn (dd + d) t (valT P t xs) (valT P t ys)).run P w = .ok (eqL xs ys) w := by
  intro d
  induction d with
  | zero => intro t cs h; cases h
  | succ d ih =>
    intro t cs h dd w xs ys hx hy
    have h0 := h
    unfold shp at h
    unfold valT
    cases hu : P.underlying t with
    | none => rw [hu] at h; cases h
    | some kd =>
      rw [hu] at h
      cases kd <;> first | (cases h; done) | skip
      · rename_i k
        cases h
        rcases xs with _ | ⟨x, _ | ⟨_, _⟩⟩ <;> rcases ys with _ | ⟨y, _ | ⟨_, _⟩⟩ <;> first | (cases hx; done) | (cases hy; done) | (have := areKC_len hx; simp at this; done) | (have := areKC_len hy; simp at this; done) | skip
        rw [areKC_cons] at hx hy
        obtain ⟨hx, _⟩ := boolC_ff hx
        obtain ⟨hy, _⟩ := boolC_ff hy
        obtain ⟨a, rfl⟩ := isKC_int hx
        obtain ⟨b, rfl⟩ := isKC_int hy
        have := run_equalIn_int (P := P) w (dd + d) t k k a b hu
        show (Op.equalIn (dd + d + 1) t (.int k a) (.int k b)).run P w = _
        rw [this, eqL_cons, eqS_int]
        cases a == b <;> rfl
      · cases h
        rcases xs with _ | ⟨x, _ | ⟨_, _⟩⟩ <;> rcases ys with _ | ⟨y, _ | ⟨_, _⟩⟩ <;> first | (cases hx; done) | (cases hy; done) | (have := areKC_len hx; simp at this; done) | (have := areKC_len hy; simp at this; done) | skip
        rw [areKC_cons] at hx hy
        obtain ⟨hx, _⟩ := boolC_ff hx
        obtain ⟨hy, _⟩ := boolC_ff hy
        obtain ⟨a, rfl⟩ := isKC_str hx
        obtain ⟨b, rfl⟩ := isKC_str hy
        have := run_equalIn_string (P := P) w (dd + d) t a b hu
        show (Op.equalIn (dd + d + 1) t (.string a) (.string b)).run P w = _
        rw [this, eqL_cons, eqS_str]
        cases a.toList == b.toList <;> rfl
      · rename_i fs
        dsimp only at h
        split at h
        · cases h
        · rename_i hst
          have hf : P.fieldsOf t = fs := by unfold Program.fieldsOf; rw [hu]
          show (Op.equalIn (dd + d + 1) t (.agg ⟨xs⟩) (.agg ⟨ys⟩)).run P w = _
          rw [run_equalIn_struct w (dd + d) t ⟨xs⟩ ⟨ys⟩ (by rw [hf]; exact hu) (by simpa using hst), hf]
          have key : ∀ (l : List Field) (off : Nat) (cs : List KC), shpF P (shp P d) l off = some cs → areKC cs (xs.drop off) = true → areKC cs (ys.drop off) = true → (Op.eqFields (dd + d) ⟨xs⟩ ⟨ys⟩ l).run P w = .ok (eqL (xs.drop off) (ys.drop off)) w := by
            intro l
            induction l with
            | nil =>
              intro off cs h1 h2 h3
              cases h1
              have e1 := List.eq_nil_of_length_eq_zero (areKC_len h2)
              have e2 := List.eq_nil_of_length_eq_zero (areKC_len h3)
              rw [e1, e2]
              rfl
            | cons f l ihl =>
              intro off cs h1 h2 h3
              unfold shpF at h1
              split at h1
              · cases h1
              · rename_i hno
                have hname : f.name ≠ "_" := fun e => hno (.inl e)
                have hoff : f.offset = off := Decidable.byContradiction fun e => hno (.inr e)
                cases hsf : shp P d f.type with
                | none => rw [hsf] at h1; cases h1
                | some c1 =>
                  rw [hsf] at h1
                  dsimp only at h1
                  split at h1
                  · cases h1
                  · rename_i hsz
                    have hsz' : (P.info? f.type).map (·.size) = some c1.length := Decidable.byContradiction fun e => hsz e
                    obtain ⟨c2, h4, rfl⟩ := Option.map_eq_some_iff.1 h1
                    obtain ⟨g1, g2⟩ := areKC_append h2
                    obtain ⟨g3, g4⟩ := areKC_append h3
                    rw [List.drop_drop] at g2 g4
                    have r1 := run_partT hsf hsz' g1 w
                    have r2 := run_partT hsf hsz' g3 w
                    have r3 := ih f.type c1 hsf dd w _ _ g1 g3
                    have r4 := ihl (off + c1.length) c2 h4 g2 g4
                    have hsplit : eqL (xs.drop off) (ys.drop off) = boolC false (eqL (xs.drop (off + c1.length)) (ys.drop (off + c1.length))) (eqL ((xs.drop off).take c1.length) ((ys.drop off).take c1.length)) := by
                      have := eqL_append (a := (xs.drop off).take c1.length) (a' := (ys.drop off).take c1.length) (b := (xs.drop off).drop c1.length) (b' := (ys.drop off).drop c1.length) (by rw [areKC_len g1, areKC_len g3])
                      rw [List.take_append_drop, List.take_append_drop, List.drop_drop, List.drop_drop] at this
                      exact this
                    rw [hsplit]
                    simp only [Op.eqFields, hname, ne_eq, not_false_eq_true, if_true, Sem.run_bind, hoff, r1, r2, r3, Result.andThen_ok]
                    cases eqL ((xs.drop off).take c1.length) ((ys.drop off).take c1.length) with
                    | false => simp [boolC_false]
                    | true => simp [boolC_true, r4]
          have := key fs.toList 0 cs h (by simpa using hx) (by simpa using hy)
          simpa using this

theorem check_shp (em : Bool) : ∀ (d : Nat) (t : TypeId) (cs : List KC), shp P d t = some cs → ∀ (dd : Nat) (w : World) (xs : List Value), areKC cs xs = true → (Instr.checkKey em (dd + d) t (valT P t xs)).run P w = .ok () w := by
  intro d
  induction d with
  | zero => intro t cs h; cases h
  | succ d ih =>
    intro t cs h dd w xs hx
    unfold shp at h
    unfold valT
    rw [show dd + (d + 1) = (dd + d) + 1 from rfl]
    unfold Instr.checkKey
    cases hu : P.underlying t with
    | none => rw [hu] at h; cases h
    | some kd =>
      rw [hu] at h
      cases kd <;> first | (cases h; done) | skip
      · rename_i k
        cases h
        rcases xs with _ | ⟨x, _ | ⟨_, _⟩⟩ <;> first | (cases hx; done) | (have := areKC_len hx; simp at this; done) | skip
        simp only [Sem.run_bind, run_underlying hu, Result.andThen_ok]
        rfl
      · cases h
        rcases xs with _ | ⟨x, _ | ⟨_, _⟩⟩ <;> first | (cases hx; done) | (have := areKC_len hx; simp at this; done) | skip
        simp only [Sem.run_bind, run_underlying hu, Result.andThen_ok]
        rfl
      · rename_i fs
        dsimp only at h
        split at h
        · cases h
        · simp only [Sem.run_bind, run_underlying hu, Result.andThen_ok]
          rw [← Array.forIn_toList]
          have key : ∀ (l : List Field) (off : Nat) (cs : List KC), shpF P (shp P d) l off = some cs → areKC cs (xs.drop off) = true →
              (forIn l PUnit.unit fun f (_ : PUnit) => (do
                if f.name ≠ "_" then Instr.checkKey em (dd + d) f.type (← part f.type ⟨xs⟩ f.offset)
                pure (ForInStep.yield PUnit.unit) : Sem (ForInStep PUnit))).run P w = .ok PUnit.unit w := by
            intro l
            induction l with
            | nil => intro off cs _ _; rfl
            | cons f l ihl =>
              intro off cs h1 h2
              unfold shpF at h1
              split at h1
              · cases h1
              · rename_i hno
                have hname : f.name ≠ "_" := fun e => hno (.inl e)
                have hoff : f.offset = off := Decidable.byContradiction fun e => hno (.inr e)
                cases hsf : shp P d f.type with
                | none => rw [hsf] at h1; cases h1
                | some c1 =>
                  rw [hsf] at h1
                  dsimp only at h1
                  split at h1
                  · cases h1
                  · rename_i hsz
                    have hsz' : (P.info? f.type).map (·.size) = some c1.length := Decidable.byContradiction fun e => hsz e
                    obtain ⟨c2, h4, rfl⟩ := Option.map_eq_some_iff.1 h1
                    obtain ⟨g1, g2⟩ := areKC_append h2
                    rw [List.drop_drop] at g2
                    have r1 := run_partT hsf hsz' g1 w
                    have r3 := ih f.type c1 hsf dd w _ g1
                    have r4 := ihl (off + c1.length) c2 h4 g2
                    simp only [List.forIn_cons, hname, ne_eq, not_false_eq_true, if_true, Sem.run_bind, hoff, r1, r3, Result.andThen_ok, Sem.run_pure, r4]
          have := key fs.toList 0 cs h (by simpa using hx)
          first | exact this | (simp at this ⊢; rw [this]; rfl) | (simp at this ⊢; simp only [this]; rfl)

theorem same_kc {c : KC} {v : Value} (h : isKC c v = true) (m : Nat) : Instr.sameBits m v v = true := by
  cases c with
  | i k => obtain ⟨n, rfl⟩ := isKC_int h; unfold Instr.sameBits; simp
  | s => obtain ⟨s, rfl⟩ := isKC_str h; unfold Instr.sameBits; simp [beq_bytes]
  | b =>
    unfold isKC at h
    split at h
    · rename_i e; cases e
    · rename_i e; cases e
    · unfold Instr.sameBits; simp
    · cases h
theorem same_kcs : ∀ {cs : List KC} {xs : List Value}, areKC cs xs = true → ∀ m, (xs.zip xs).all (fun (x, y) => Instr.sameBits m x y) = true
  | [], [], _, _ => rfl
  | [], _ :: _, h, _ => by cases h
  | _ :: _, [], h, _ => by cases h
  | c :: cs, x :: xs, h, m => by
    rw [areKC_cons] at h
    obtain ⟨h1, h2⟩ := boolC_ff h
    simp only [List.zip_cons_cons, List.all_cons, same_kc h1, Bool.true_and]
    exact same_kcs h2 m

/-- The facts on a key type, by one look. -/
def keyB (P : Program) (t : TypeId) (ks : KS) : Bool :=
  match ks with
  | .one c => (match P.underlying t, c with | some (.int k), .i j => decide (k = j) | some .string, .s => true | _, _ => false) && !P.eqGuardType P.depth t
  | .agg cs => (match P.underlying t with | some (.struct _) => true | _ => false) && !P.eqGuardType P.depth t && (match shp P 20 t with | some c => kcsB c cs | none => false)
where
  kcsB : List KC → List KC → Bool
  | [], [] => true
  | .i k :: a, .i j :: b => decide (k = j) && kcsB a b
  | .s :: a, .s :: b => kcsB a b
  | .b :: a, .b :: b => kcsB a b
  | _, _ => false
theorem kcsB_ok : ∀ {a b : List KC}, keyB.kcsB a b = true → a = b
  | [], [], _ => rfl
  | [], c :: _, h => by cases c <;> cases h
  | c :: _, [], h => by cases c <;> cases h
  | c :: a, d :: b, h => by
    cases c <;> cases d <;> first
      | (cases h; done)
      | (unfold keyB.kcsB at h
         rw [Bool.and_eq_true, decide_eq_true_iff] at h
         rw [h.1, kcsB_ok h.2])
      | (unfold keyB.kcsB at h
         rw [kcsB_ok h])

theorem keyB_ok {t : TypeId} {ks : KS} (h : keyB P t ks = true) : KeyFacts P t ks := by
  cases ks with
  | one c =>
    unfold keyB at h
    rw [Bool.and_eq_true] at h
    obtain ⟨h1, h2⟩ := h
    have hg : P.eqGuardType P.depth t = false := by simpa using h2
    cases hu : P.underlying t with
    | none => rw [hu] at h1; cases h1
    | some kd =>
      rw [hu] at h1
      cases kd <;> cases c <;> first | (cases h1; done) | skip
      · rename_i k j
        have : k = j := by simpa using h1
        subst this
        have kp : ∀ v, KP (.one (.i k)) v ↔ ∃ n, v = .int k n := fun v => ⟨fun h => isKC_int h, fun ⟨n, e⟩ => by rw [e]; show isKC (.i k) (.int k n) = true; unfold isKC; simp⟩
        refine ⟨?_, fun x y w hx hy => ?_, hg⟩
        · have ko := keyOK_int (P := P) hu
          exact ⟨fun e v w hv => ko.check e v w ((kp v).1 hv), fun q es w hq hes => ko.find q es w ((kp q).1 hq) fun e he => (kp _).1 (hes e he), fun v hv => ko.same v ((kp v).1 hv)⟩
        · obtain ⟨a, rfl⟩ := (kp x).1 hx
          obtain ⟨b, rfl⟩ := (kp y).1 hy
          show (Op.equalIn (9999 + 1) t (.int k a) (.int k b)).run P w = _
          rw [run_equalIn_int w 9999 t k k a b hu]
          show _ = Result.ok (eqS (.int k a) (.int k b)) w
          rw [eqS_int]
      · have kp : ∀ v, KP (.one .s) v ↔ ∃ s, v = .string s := fun v => ⟨fun h => isKC_str h, fun ⟨n, e⟩ => by rw [e]; rfl⟩
        refine ⟨?_, fun x y w hx hy => ?_, hg⟩
        · have ko := keyOK_string (P := P) hu
          exact ⟨fun e v w hv => ko.check e v w ((kp v).1 hv), fun q es w hq hes => ko.find q es w ((kp q).1 hq) fun e he => (kp _).1 (hes e he), fun v hv => ko.same v ((kp v).1 hv)⟩
        · obtain ⟨a, rfl⟩ := (kp x).1 hx
          obtain ⟨b, rfl⟩ := (kp y).1 hy
          show (Op.equalIn (9999 + 1) t (.string a) (.string b)).run P w = _
          rw [run_equalIn_string w 9999 t a b hu]
          show _ = Result.ok (eqS (.string a) (.string b)) w
          rw [eqS_str]
  | agg cs =>
    unfold keyB at h
    rw [Bool.and_eq_true, Bool.and_eq_true] at h
    obtain ⟨⟨h0, h2⟩, h1⟩ := h
    have hg : P.eqGuardType P.depth t = false := by simpa using h2
    cases hs : shp P 20 t with
    | none => rw [hs] at h1; cases h1
    | some c =>
      rw [hs] at h1
      have := kcsB_ok h1
      subst this
      cases hu : P.underlying t with
      | none => rw [hu] at h0; cases h0
      | some kd =>
        rw [hu] at h0
        cases kd <;> first | (cases h0; done) | skip
        rename_i fs
        have hv : ∀ xs, valT P t xs = .agg ⟨xs⟩ := fun xs => by unfold valT; rw [hu]
        have heq : ∀ x y w, KP (.agg c) x → KP (.agg c) y → (Op.equal t x y).run P w = .ok (eqKV x y) w := by
          rintro x y w ⟨xs, rfl, hx⟩ ⟨ys, rfl, hy⟩
          have := eq_shp 20 t c hs 9980 w xs ys hx hy
          rw [hv, hv] at this
          exact this
        refine ⟨keyOK_asking hu (fun k v hk hv' => ?_) (fun e v w hk => ?_) (fun k v w hk hv' => ?_) (fun v hk => ?_), heq, hg⟩
        · obtain ⟨xs, rfl, _⟩ := hk
          obtain ⟨ys, rfl, _⟩ := hv'
          rfl
        · obtain ⟨xs, rfl, hx⟩ := hk
          have := check_shp (P := P) e 20 t c hs 9980 w xs hx
          rw [hv] at this
          exact this
        · refine ⟨_, heq k v w hk hv', ?_⟩
          rw [eqKV_iff hk]
          exact ⟨fun e => e.symm, fun e => e.symm⟩
        · obtain ⟨xs, rfl, hx⟩ := hk
          unfold Instr.sameBits
          simp only [beq_self_eq_true, Bool.true_and]
          exact same_kcs hx 9999
end
end Go.Proofs.YtclljjfkaljdnaaGreatDoor
