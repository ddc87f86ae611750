/- IdsOne: the walk. -/
import Derived.Test.YtlbppfdkcaoijaaP1
import Derived.Test.YtlbppfdkcaoijaaA4
import Derived.Test.YtlbppfdkcaoijaaK2
import Derived.Deep.RegionHeld3
namespace Go.Proofs.Ytlbppfdkcaoijaa
open Go.RowKit

section
variable {α : Type} [DecidableEq α]
theorem tIx_append {k : α} {xs ys : List α} {i : Nat} : tIx k xs = some i → tIx k (xs ++ ys) = some i := by
  induction xs generalizing i with
  | nil => intro h; simp [tIx] at h
  | cons x xs ih =>
    intro h
    simp only [tIx, List.cons_append] at h ⊢
    by_cases hx : x = k
    · rw [if_pos hx] at h ⊢; exact h
    · rw [if_neg hx] at h ⊢
      cases h2 : tIx k xs with
      | none => simp [h2] at h
      | some j => rw [ih h2]; rw [h2] at h; exact h
theorem tIx_stays {k y : α} {xs : List α} {i : Nat} (h : tIx k xs = some i) : tIx k (tAdd y xs) = some i := by
  unfold tAdd; split
  · exact h
  · exact tIx_append h
theorem tIx_new {k : α} : ∀ {xs : List α}, tIx k xs = none → tIx k (xs ++ [k]) = some xs.length
  | [], _ => by simp [tIx]
  | x :: xs, h => by
    simp only [tIx] at h
    by_cases hx : x = k
    · simp [hx] at h
    · rw [if_neg hx] at h
      have h' : tIx k xs = none := by cases e : tIx k xs <;> simp [e] at h ⊢
      simp only [List.cons_append, tIx, if_neg hx, tIx_new h', Option.map_some, List.length_cons]
theorem tIx_add {k : α} {xs : List α} : tIx k (tAdd k xs) = some (tNo k xs) := by
  cases h : tIx k xs with
  | some i => simp [tAdd, tNo, h]
  | none => simp [tAdd, tNo, h, tIx_new h]
/-- The numbers that were told. -/
def idsOf (xs : List α) : List Nat := xs.map fun x => (tIx x (tAll xs)).getD 0
theorem idsOf_take (xs : List α) (k : Nat) (h : k < xs.length) : idsOf (xs.take (k + 1)) = idsOf (xs.take k) ++ [tNo xs[k] (tAll (xs.take k))] := by
  unfold idsOf
  rw [tAll_take xs k h, List.take_succ_eq_append_getElem h, List.map_append, List.map_cons, List.map_nil, tIx_add]
  congr 1
  refine List.map_congr_left (fun x hx => ?_)
  obtain ⟨i, hi⟩ := tIx_some_of_mem (mem_tAll.2 hx)
  rw [tIx_stays hi, hi]
theorem idsOf_len (xs : List α) : (idsOf xs).length = xs.length := by simp [idsOf]
theorem idsOf_get (xs : List α) (k : Nat) (h : k < xs.length) : ∃ i, (idsOf xs)[k]? = some i ∧ tIx xs[k] (tAll xs) = some i ∧ i < (tAll xs).length ∧ (tAll xs)[i]? = some xs[k] := by
  obtain ⟨i, hi⟩ := tIx_some_of_mem (mem_tAll.2 (List.getElem_mem h))
  exact ⟨i, by simp [idsOf, h, hi], hi, tIx_lt hi, tIx_get hi⟩
end

set_option maxHeartbeats 400000 in
theorem keyP (p : Nat) (xs : List Pt) (F : Nat → Prop) (i : Nat) (k : Pt) (w : World) (h : TabP w p xs F) (hi : xs[i]? = some k) :
    Calls Try.prog 28 #[.pointer (some ⟨p, 0, none⟩), .int .i64 i] w fun e w' => e = .returned (.tuple #[.agg #[.int .i64 k.a, .int .i64 k.b, .int .i64 k.c], .int .i64 0]) ∧ Chg (fun _ => False) w w' := by
  obtain ⟨mb, lv, hb, hm, hl, hpm, hlp, hlm, hF⟩ := h
  have hilt : i < xs.length := (List.getElem?_eq_some_iff.1 hi).1
  have hik : xs[i] = k := by simpa [hilt] using hi
  obtain ⟨hlen, hmax, ad, cap, rfl, h4, h5, h6, h7⟩ := Rd.of_owns hl
  obtain ⟨b, off, rfl, hG, hcl⟩ : ∃ b off, ad = some ⟨b, off, none⟩ ∧ _ ∧ _ := h7.resolve_left (by omega)
  have hmm : xs.length ≤ 9223372036854775807 := by unfold maxLen at hmax; omega
  have hal : ∀ o o', Chg (fun _ => False) w ((w.alloc o).alloc o') := fun o o' => ((Chg.refl _ _).alloc _).alloc _
  have hc := fun o o' => (hal o o').cell (cell_of_blk (i := 1) hb rfl) (fun e => e)
  have hcx : ∀ o o' j u, k.cells[j]? = some u → ((w.alloc o).alloc o').cell? ⟨b, off + (i * 3 + j), none⟩ = some u := by
    intro o o' j u hu
    refine (hal o o').cell (hcl _ _ ?_) (fun e => e)
    have hj3 : j < 3 := (List.getElem?_eq_some_iff.1 hu).1
    rw [flat_get Pt.cells (fun _ => rfl) xs i hilt j hj3, hik]
    exact hu
  have hc0 := fun o o' => (show ((w.alloc o).alloc o').cell? ⟨b, off + i * 3, none⟩ = some (.int .i64 k.a) from hcx o o' 0 _ rfl)
  have hc1 := fun o o' => (show ((w.alloc o).alloc o').cell? ⟨b, off + i * 3 + 1, none⟩ = some (.int .i64 k.b) from hcx o o' 1 _ rfl)
  have hc2 := fun o o' => (show ((w.alloc o).alloc o').cell? ⟨b, off + i * 3 + 2, none⟩ = some (.int .i64 k.c) from hcx o o' 2 _ rfl)
  have h0' : decide ((i : Int) < 0) = false := by simp
  have h1' : decide (xs.length ≤ i) = false := by simp; omega
  have hb2 : (i : Int) < xs.length := by omega
  clear hcx hcl h7 h6 hF hlp hlm hm hl hb hal hi hik
  go_enter Try.func28, Try.ntmps28
  go_wp2
  refine bodyPost_ret (v := .tuple #[.agg #[.int .i64 k.a, .int .i64 k.b, .int .i64 k.c], .int .i64 0]) (by simp [results, Try.results28, go_sem]) rfl ⟨rfl, ?_⟩
  repeat (first | exact Chg.refl _ _ | refine Chg.alloc ?_ _ | refine Chg.drew ?_)

def OneRel (w : World) (pt : Nat) (xs : List Pt) (k : Nat) (iv : Value) (wr : World) : Prop :=
  ∃ F, TabP wr pt (tAll (xs.take k)) F ∧ Chg (fun _ => False) w wr ∧ (∀ b, F b → w.heap.size ≤ b) ∧ wr.ownsRow 0 3 1 iv k ((idsOf (xs.take k)).map fun (i : Nat) => Value.int .i64 (i : Int)) ∧ (∀ b, iv.ownBlock = some b → w.heap.size ≤ b ∧ ¬ F b)

theorem rd_nil' (w : World) (size : Nat) (G : Nat → Prop) : Rd w (.slice none 0 0) size 0 [] G :=
  ⟨by simp, Nat.zero_le _, none, 0, rfl, Nat.le_refl _, Nat.zero_le _, fun _ => ⟨rfl, rfl⟩, .inl rfl⟩
theorem info3 : (Try.prog.info? 3).map (fun i => (i.zero, i.size, i.bytes)) = some (some (.int .i64 0), 1, 8) := by kernel_rfl

theorem one_big (n : Nat) (cap : Nat) (ad : Option Addr) (w : World) (hn : 200 < n) :
    Calls Try.prog 6 #[.slice ad n cap] w fun e w' => e = .returned (.bool true) ∧ Chg (fun _ => False) w w' := by
  have h1 : (200 : Int) < (n : Int) := by omega
  go_enter Try.func6, Try.ntmps6
  go_wp2_with (go_at_call 8; refine (wakesS _).mono ?_; rintro e w1 ⟨rfl, hc⟩)
  go_ret
  exact ⟨rfl, by assumption⟩

theorem findP_some (p : Nat) (xs : List Pt) (F : Nat → Prop) (k : Pt) (w : World) (h : TabP w p xs F) (i : Nat) (hi : tIx k xs = some i) :
    Calls Try.prog 29 #[.pointer (some ⟨p, 0, none⟩), .agg #[.int .i64 k.a, .int .i64 k.b, .int .i64 k.c]] w fun e w' => e = .returned (.tuple #[.int .i64 i, .bool true]) ∧ Chg (fun _ => False) w w' := by
  have := findP p xs F k w h
  rw [hi] at this
  exact this

set_option maxHeartbeats 2000000 in
set_option maxRecDepth 100000 in
theorem one_small (v : Value) (xs : List Pt) (G : Nat → Prop) (w : World) (h : Rd w v 3 xs.length (xs.flatMap Pt.cells) G) (hn : xs.length ≤ 200) :
    Calls Try.prog 6 #[v] w fun e w' => e = .returned (.bool true) ∧ Chg (fun _ => False) w w' := by
  have hrd := Lib.hid h
  obtain ⟨hlen, hmax, ad, cap, rfl, h4, h5, h6, h7⟩ := h
  clear h4 h5 h6 hlen hmax
  have h1 : ¬ (200 : Int) < (xs.length : Int) := by omega
  have hle := tAll_len xs
  go_enter Try.func6, Try.ntmps6
  go_wp2_with fail
  refine (newP _ [] _ _ (rd_nil' _ 3 (fun _ => False)) (by decide)).mono ?_
  rintro e w1 ⟨pt, F, rfl, hT, hC1, hF⟩
  have HR0 : Hid (OneRel w pt xs 0 (.slice none 0 0) w1) := ⟨F, hT, hC1, hF, World.ownsRow_nil _ _ _ _, by simp [Value.ownBlock]⟩
  clear hT hC1 hF
  go_wp2_with fail
  go_loopw [4, 5] (fun v i wr => ∃ k : Nat, k ≤ xs.length ∧ i = .int .i64 k ∧ OneRel w pt xs k v wr) (fun _ i _ => xs.length - (intOf i).toNat)
  case atStart => exact ⟨0, Nat.zero_le _, rfl, HR0.out⟩
  case round =>
    obtain ⟨k, hk, rfl, hR⟩ := hrel
    have HR := Lib.hid hR
    clear hR HR0
    by_cases hlt : k < xs.length
    · obtain ⟨b, off, rfl, hG, hcl⟩ : ∃ b off, ad = some ⟨b, off, none⟩ ∧ _ ∧ _ := h7.resolve_left (by omega)
      obtain ⟨F, hT, hC, hF, hi, hib⟩ := HR.out
      obtain ⟨x, hx⟩ : ∃ x, x = xs[k] := ⟨_, rfl⟩
      have hcx : ∀ j u, x.cells[j]? = some u → wr.cell? ⟨b, off + (k * 3 + j), none⟩ = some u := by
        intro j u hu
        refine hC.cell (hcl _ _ ?_) (fun e => e)
        have hj3 : j < 3 := (List.getElem?_eq_some_iff.1 hu).1
        rw [flat_get Pt.cells (fun _ => rfl) xs k hlt j hj3, ← hx]
        exact hu
      have hc0 : wr.cell? ⟨b, off + k * 3, none⟩ = some (.int .i64 x.a) := hcx 0 _ rfl
      have hc1 : wr.cell? ⟨b, off + k * 3 + 1, none⟩ = some (.int .i64 x.b) := hcx 1 _ rfl
      have hc2 : wr.cell? ⟨b, off + k * 3 + 2, none⟩ = some (.int .i64 x.c) := hcx 2 _ rfl
      have hb1 : (0 : Int) ≤ (k : Int) := by omega
      have hb2 : (k : Int) < xs.length := by omega
      have hlz : (tAll (xs.take k)).length ≤ 200 := by have := tAll_len (xs.take k); simp at this; omega
      have Hx := Lib.hid hx
      clear hcx hcl h7 hx
      go_wp2_with fail
      refine (idP pt _ F x _ hT (by omega)).mono ?_
      rintro e w2 ⟨rfl, F', hT', hC2, hF'⟩
      have hi2 := owns_chg hi hC2 (fun b hb => (hib b hb).2)
      have hi3 := fun o => owns_chg hi2 (chg_alloc (fun _ => False) w2 o) (fun _ _ e => e)
      have Hi3 := Lib.hid hi3
      clear hi3 hc0 hc1 hc2
      go_wp2_with (first
        | (at_builtin; refine wp_append_at rfl _ _ 57 rfl 3 _ 1 8 Try.underlying57 info3 rfl (by decide) _ k _ rfl (Hi3.out _) w2.heap.size 1 1 _ _ _ rfl (blk_alloc_new _ _) [.int .i64 ((tNo x (tAll (xs.take k)) : Nat) : Int)] rfl rfl ?_ (by decide) ?_ ?_ ?_))
      · simp [Value.oneCell']
      · unfold maxLen; omega
      · omega
      intro g cap' w3 hi4 hC3 hg
      go_wp2_with fail
      go_roundw
      case rel =>
        have hs := hC.size
        have hs2 := hC2.size
        have hF'' : ∀ b, F' b → b < w2.heap.size ∧ (F b ∨ wr.heap.size ≤ b) := fun b hb => ⟨hT'.lt b hb, hF' b hb⟩
        have hC3' := ((chg_alloc (fun k => u4.ownBlock = some k) w2 _).trans hC3)
        refine ⟨k + 1, by omega, by go_num, F', ?_, ?_, ?_, ?_, ?_⟩
        · rw [tAll_take xs k hlt, ← Hx.out]
          refine hT'.chg hC3' (fun b hb he => ?_)
          rcases hF' b hb with h | h
          · exact (hib b he).2 h
          · have := (hi.lt b he).2; omega
        · exact (hC.then' hC2 (fun b _ hb => by have := hF b hb; omega)).then' hC3' (fun b _ he => by have := (hib b he).1; omega)
        · intro b hb
          rcases hF' b hb with h | h
          · exact hF b h
          · omega
        · rw [idsOf_take xs k hlt, ← Hx.out]
          simpa using hi4
        · intro b hb
          simp only [Value.ownBlock, Option.some.injEq] at hb
          subst hb
          rcases hg with h | h
          · refine ⟨(hib g h).1, fun e => ?_⟩
            rcases hF' g e with h' | h'
            · exact (hib g h).2 h'
            · have := (hi.lt g h).2; omega
          · exact ⟨by omega, fun e => by have := (hF'' g e).1; omega⟩
      case measure => simp [intOf]; omega
    · have hke : k = xs.length := by omega
      obtain ⟨F, hT, hC, hF, hi, hib⟩ := HR.out
      rw [hke, List.take_length] at hT hi
      have Hke := Lib.hid hke
      clear hke HR
      go_wp2_with fail
      refine (newP _ xs _ _ (hrd.out.chg hC (fun _ _ e => e)) (by omega)).mono ?_
      rintro e w2 ⟨pu, Fu, rfl, hU, hC2, hFu⟩
      have hT2 := hT.chg hC2 (fun _ _ e => e)
      have hi2 := owns_chg hi hC2 (fun _ _ e => e)
      have hCC := hC.trans hC2
      clear hT hi hC hF hib hC2 hFu
      go_wp2_with fail
      refine (lenP pu _ Fu _ hU).mono ?_
      rintro e w3 ⟨rfl, rfl⟩
      go_wp2_with fail
      refine (lenP pt _ F _ hT2).mono ?_
      rintro e w3 ⟨rfl, rfl⟩
      go_wp2_with fail
      obtain ⟨_, _, adi, capi, rfl, _, _, _, hi8⟩ := Rd.of_owns hi2
      clear hi2
      go_loopw [7] (fun i w4 => ∃ j : Nat, j ≤ xs.length ∧ i = .int .i64 j ∧ Chg (fun _ => False) w2 w4) (fun i _ => xs.length - (intOf i).toNat)
      case atStart => exact ⟨0, Nat.zero_le _, rfl, Chg.refl _ _⟩
      case round =>
        obtain ⟨w4, rfl⟩ : ∃ w4 : World, w4 = wr := ⟨_, rfl⟩
        obtain ⟨j, hj, rfl, hC4⟩ := hrel
        by_cases hlt : j < xs.length
        · obtain ⟨b, off, rfl, hG, hcl⟩ : ∃ b off, ad = some ⟨b, off, none⟩ ∧ _ ∧ _ := h7.resolve_left (by omega)
          obtain ⟨bi, offi, rfl, _, hcli⟩ : ∃ b off, adi = some ⟨b, off, none⟩ ∧ _ ∧ _ := hi8.resolve_left (by omega)
          obtain ⟨i, q1, q2, q3, q4⟩ := idsOf_get xs j hlt
          have hcid : w4.cell? ⟨bi, offi + j, none⟩ = some (.int .i64 (i : Int)) := hC4.cell (hcli j _ (by rw [List.getElem?_map, q1]; rfl)) (fun e => e)
          obtain ⟨x, hx⟩ : ∃ x, x = xs[j] := ⟨_, rfl⟩
          rw [← hx] at q2 q4
          have hcx : ∀ m u, x.cells[m]? = some u → w4.cell? ⟨b, off + (j * 3 + m), none⟩ = some u := by
            intro m u hu
            refine (hCC.trans hC4).cell (hcl _ _ ?_) (fun e => e)
            have hj3 : m < 3 := (List.getElem?_eq_some_iff.1 hu).1
            rw [flat_get Pt.cells (fun _ => rfl) xs j hlt m hj3, ← hx]
            exact hu
          have hc0 : w4.cell? ⟨b, off + j * 3, none⟩ = some (.int .i64 x.a) := hcx 0 _ rfl
          have hc1 : w4.cell? ⟨b, off + j * 3 + 1, none⟩ = some (.int .i64 x.b) := hcx 1 _ rfl
          have hc2 : w4.cell? ⟨b, off + j * 3 + 2, none⟩ = some (.int .i64 x.c) := hcx 2 _ rfl
          have hT4 := hT2.chg hC4 (fun _ _ e => e)
          have hU4 := hU.chg hC4 (fun _ _ e => e)
          have hb1 : (0 : Int) ≤ (j : Int) := by omega
          have hb2 : (j : Int) < xs.length := by omega
          have Q2 := Lib.hid q2
          have Q4 := Lib.hid q4
          have Hx := Lib.hid hx
          have Hcl := Lib.hid hcl
          have Hcli := Lib.hid hcli
          have Hq1 := Lib.hid q1
          clear hcx hcl hcli hx q1 q2 q4
          go_wp2_with fail
          refine (keyP pt _ F i x _ hT4 Q4.out).mono ?_
          rintro e w5 ⟨rfl, hC5⟩
          have hA := hC5.trans (chg_alloc (fun _ => False) w5 (.cells #[.int .i64 x.a, .int .i64 x.b, .int .i64 x.c] 56))
          have a1 := hA.cell hcid (fun e => e)
          have a2 := hA.cell hc0 (fun e => e)
          have a3 := hA.cell hc1 (fun e => e)
          have a4 := hA.cell hc2 (fun e => e)
          have b0 := cell_of_blk (i := 0) (blk_alloc_new w5 (.cells #[.int .i64 x.a, .int .i64 x.b, .int .i64 x.c] 56)) rfl
          have b1 := cell_of_blk (i := 1) (blk_alloc_new w5 (.cells #[.int .i64 x.a, .int .i64 x.b, .int .i64 x.c] 56)) rfl
          have b2 := cell_of_blk (i := 2) (blk_alloc_new w5 (.cells #[.int .i64 x.a, .int .i64 x.b, .int .i64 x.c] 56)) rfl
          clear hcid hc0 hc1 hc2
          go_wp2_with fail
          refine (findP_some pt _ F x _ (hT4.chg hA (fun _ _ e => e)) i Q2.out).mono ?_
          rintro e w6 ⟨rfl, hC6⟩
          have a1' := hC6.cell a1 (fun e => e)
          have a2' := hC6.cell a2 (fun e => e)
          have a3' := hC6.cell a3 (fun e => e)
          have a4' := hC6.cell a4 (fun e => e)
          have b0' := hC6.cell b0 (fun e => e)
          have b1' := hC6.cell b1 (fun e => e)
          have b2' := hC6.cell b2 (fun e => e)
          clear a1 a2 a3 a4 b0 b1 b2
          go_wp2_with fail
          refine (findP_some pu _ Fu x _ (hU4.chg (hA.trans hC6) (fun _ _ e => e)) i Q2.out).mono ?_
          rintro e w7 ⟨rfl, hC7⟩
          have a1 := hC7.cell a1' (fun e => e)
          have a2 := hC7.cell a2' (fun e => e)
          have a3 := hC7.cell a3' (fun e => e)
          have a4 := hC7.cell a4' (fun e => e)
          have b0 := hC7.cell b0' (fun e => e)
          have b1 := hC7.cell b1' (fun e => e)
          have b2 := hC7.cell b2' (fun e => e)
          clear a1' a2' a3' a4' b0' b1' b2'
          have hA7 := (hA.trans hC6).trans hC7
          have hT7 := hT4.chg hA7 (fun _ _ e => e)
          have hA8 := hC4.trans hA7
          have HT7 := Lib.hid (fun n => (hT7.chg (chg_drewN (fun _ => False) _ n) (fun _ _ e => e)))
          generalize w5.heap.size = bk at *
          clear hA hC6 hC7 hC5 hT4 hU4 hA7 hT7
          have hq3 : (i : Int) < (tAll xs).length := by omega
          have hq0 : (0 : Int) ≤ (i : Int) := by omega
          go_wp2_with fail
          go_region_held3 (fun w' => w'.cell? ⟨bi, offi + j, none⟩ = some (.int .i64 (i : Int)) ∧ w'.cell? ⟨b, off + j * 3, none⟩ = some (.int .i64 x.a) ∧ w'.cell? ⟨b, off + j * 3 + 1, none⟩ = some (.int .i64 x.b) ∧ w'.cell? ⟨b, off + j * 3 + 2, none⟩ = some (.int .i64 x.c)
              ∧ w'.cell? ⟨bk, 0, none⟩ = some (.int .i64 x.a) ∧ w'.cell? ⟨bk, 1, none⟩ = some (.int .i64 x.b) ∧ w'.cell? ⟨bk, 2, none⟩ = some (.int .i64 x.c)) (first | exact ⟨a1', a2', a3', a4', b0', b1', b2'⟩ | go_keep)
            (first
              | (go_at_call 26; refine (idP_got pt _ F x _ (HT7.out 1) i Q2.out).mono ?_; rintro e w8 ⟨rfl, hC8⟩; have a1' := hC8.cell a1 (fun e => e); have a2' := hC8.cell a2 (fun e => e); have a3' := hC8.cell a3 (fun e => e); have a4' := hC8.cell a4 (fun e => e); have b0' := hC8.cell b0 (fun e => e); have b1' := hC8.cell b1 (fun e => e); have b2' := hC8.cell b2 (fun e => e))
              | (go_at_call 27; refine (lenP pt _ F _ ((HT7.out 1).chg hC8 (fun _ _ e => e))).mono ?_; rintro e w9 ⟨rfl, rfl⟩))
          have hA9 := hA8.trans ((chg_drewN (fun _ => False) w7 1).trans hC8)
          clear a1 a2 a3 a4 b0 b1 b2 a1' a2' a3' a4' b0' b1' b2' HT7 hA8
          go_wp2_with fail
          go_loopw [14] (fun v w9 => ∃ m : Nat, m ≤ j ∧ v = .int .i64 m ∧ Chg (fun _ => False) w2 w9) (fun v _ => j - (intOf v).toNat)
          case atStart => exact ⟨0, Nat.zero_le _, rfl, hA9⟩
          case round =>
            obtain ⟨m, hm, rfl, hC9⟩ := hrel
            by_cases hmj : m < j
            · obtain ⟨q, r1, r2, r3, r4⟩ := idsOf_get xs m (by omega)
              obtain ⟨y, hy⟩ : ∃ y, y = xs[m] := ⟨_, rfl⟩
              rw [← hy] at r2 r4
              have hcm : wr.cell? ⟨bi, offi + m, none⟩ = some (.int .i64 (q : Int)) := hC9.cell (Hcli.out m _ (by rw [List.getElem?_map, r1]; rfl)) (fun e => e)
              have hcj : wr.cell? ⟨bi, offi + j, none⟩ = some (.int .i64 (i : Int)) := hC9.cell (Hcli.out j _ (by rw [List.getElem?_map, Hq1.out]; rfl)) (fun e => e)
              have hcy : ∀ n u, y.cells[n]? = some u → wr.cell? ⟨b, off + (m * 3 + n), none⟩ = some u := by
                intro n u hu
                refine (hCC.trans hC9).cell (Hcl.out _ _ ?_) (fun e => e)
                have hj3 : n < 3 := (List.getElem?_eq_some_iff.1 hu).1
                rw [flat_get Pt.cells (fun _ => rfl) xs m (by omega) n hj3, ← hy]
                exact hu
              have hcx : ∀ n u, x.cells[n]? = some u → wr.cell? ⟨b, off + (j * 3 + n), none⟩ = some u := by
                intro n u hu
                refine (hCC.trans hC9).cell (Hcl.out _ _ ?_) (fun e => e)
                have hj3 : n < 3 := (List.getElem?_eq_some_iff.1 hu).1
                rw [flat_get Pt.cells (fun _ => rfl) xs j hlt n hj3, ← Hx.out]
                exact hu
              have hy0 : wr.cell? ⟨b, off + m * 3, none⟩ = some (.int .i64 y.a) := hcy 0 _ rfl
              have hy1 : wr.cell? ⟨b, off + m * 3 + 1, none⟩ = some (.int .i64 y.b) := hcy 1 _ rfl
              have hy2 : wr.cell? ⟨b, off + m * 3 + 2, none⟩ = some (.int .i64 y.c) := hcy 2 _ rfl
              have hx0 : wr.cell? ⟨b, off + j * 3, none⟩ = some (.int .i64 x.a) := hcx 0 _ rfl
              have hx1 : wr.cell? ⟨b, off + j * 3 + 1, none⟩ = some (.int .i64 x.b) := hcx 1 _ rfl
              have hx2 : wr.cell? ⟨b, off + j * 3 + 2, none⟩ = some (.int .i64 x.c) := hcx 2 _ rfl
              have hqi : ((q : Int) == (i : Int)) = ((y.a == x.a) && (y.b == x.b) && (y.c == x.c)) := by
                rw [Bool.eq_iff_iff]
                simp only [beq_iff_eq, Bool.and_eq_true]
                constructor
                · intro h
                  have : q = i := by omega
                  subst this
                  have := Q4.out
                  rw [r4] at this
                  simp at this
                  subst this
                  exact ⟨⟨rfl, rfl⟩, rfl⟩
                · rintro ⟨⟨h1, h2⟩, h3⟩
                  have hyx : y = x := by cases y; cases x; simp_all
                  have := Q2.out
                  rw [← hyx, r2] at this
                  simp at this
                  omega
              have hb3 : (0 : Int) ≤ (m : Int) := by omega
              have hb4 : (m : Int) < xs.length := by omega
              have hb5 : (m : Int) < j := by omega
              clear hcy hcx hy r1 r2 r4
              cases e1 : (y.a == x.a) with
              | false =>
                rw [e1] at hqi
                simp only [Bool.false_and] at hqi
                go_wp2_with fail
                go_quiet (fail)
                go_wp2_with fail
                go_roundw
                case rel => exact ⟨m + 1, by omega, by go_num, hC9.drewN _⟩
                case measure => simp [intOf]; omega
              | true =>
                cases e2 : (y.b == x.b) with
                | false =>
                  rw [e1, e2] at hqi
                  simp only [Bool.false_and, Bool.and_false] at hqi
                  go_wp2_with fail
                  go_quiet (fail)
                  go_wp2_with fail
                  go_roundw
                  case rel => exact ⟨m + 1, by omega, by go_num, hC9.drewN _⟩
                  case measure => simp [intOf]; omega
                | true =>
                  cases e3 : (y.c == x.c) with
                  | false =>
                    rw [e1, e2, e3] at hqi
                    simp only [Bool.and_false] at hqi
                    go_wp2_with fail
                    go_quiet (fail)
                    go_wp2_with fail
                    go_roundw
                    case rel => exact ⟨m + 1, by omega, by go_num, hC9.drewN _⟩
                    case measure => simp [intOf]; omega
                  | true =>
                    rw [e1, e2, e3] at hqi
                    simp only [Bool.and_self] at hqi
                    go_wp2_with fail
                    go_quiet (fail)
                    go_wp2_with fail
                    go_roundw
                    case rel => exact ⟨m + 1, by omega, by go_num, hC9.drewN _⟩
                    case measure => simp [intOf]; omega
            · go_wp2_with fail
              go_roundw
              case rel => exact ⟨j + 1, by omega, by go_num, hC9⟩
              case measure => simp [intOf]; omega
        · have hT4 := hT2.chg hC4 (fun _ _ e => e)
          clear h7 hi8
          go_wp2_with fail
          refine (lenP pt _ F _ hT4).mono ?_
          rintro e w5 ⟨rfl, rfl⟩
          have hlee : decide (((tAll xs).length : Int) ≤ xs.length) = true := by simp; omega
          go_wp2_with fail
          refine (wakesS _).mono ?_
          rintro e w6 ⟨rfl, hC6⟩
          go_wp2_with fail
          go_ret
          exact ⟨rfl, (hCC.trans hC4).trans hC6⟩

open Go.ChangeShapes Go.WideShapes in
theorem one_reads {H : Type} {enc : TypeId × Value → H} (W : World) (base : Nat) {v0 : Value} {d0 : DataW H} {p0 : List MemPlace}
    (o0 : Value.okWide Try.prog W .any base 52 v0) (h0 : DataW.Trod enc Try.prog W 0 (fun _ => true) true 52 v0 d0 p0) :
    Calls Try.prog 6 #[v0] W fun e w' => e = .returned (.bool true) ∧ Chg (fun _ => False) W w' := by
  obtain ⟨rows, hr1, hrows⟩ := rd_rows Try.underlying52 (show Try.prog.cellsOf 56 = 3 by kernel_rfl) (by decide) o0 h0
  obtain ⟨l, rfl⟩ : ∃ l : List Pt, rows = l.map Pt.cells := by
    refine exists_map rows (fun r hr => ?_)
    obtain ⟨hl, n, y, hy⟩ := hrows r hr
    obtain ⟨y0, y1, y2, m, _, _, g0, g1, g2⟩ := Go.Deep.trod_struct3 Try.underlying56 hy
    obtain ⟨a, e0, _, _⟩ := DataW.trod_int Try.underlying3 g0
    obtain ⟨b, e1, _, _⟩ := DataW.trod_int Try.underlying3 g1
    obtain ⟨c, e2, _, _⟩ := DataW.trod_int Try.underlying3 g2
    refine ⟨⟨a, b, c⟩, ?_⟩
    have c3 : Try.prog.cellsOf 3 = 1 := by kernel_rfl
    match r, hl with
    | [x0, x1, x2], _ =>
      simp [c3] at e0 e1 e2
      simp [Pt.cells, e0, e1, e2]
  rw [List.length_map, ← List.flatMap_def] at hr1
  by_cases hn : l.length ≤ 200
  · exact one_small v0 l _ W hr1 hn
  · have hor : 200 < l.length := by omega
    obtain ⟨_, _, ad, cap, rfl, _⟩ := hr1
    exact one_big l.length cap ad W hor
end Go.Proofs.Ytlbppfdkcaoijaa
