import Derived.Test.YtlbppfdkcaoijaaA1
namespace Go.Proofs.Ytlbppfdkcaoijaa
open Go.RowKit

set_option maxHeartbeats 400000 in
theorem idS_old (p : Nat) (xs : List ByteArray) (F : Nat → Prop) (k : ByteArray) (w : World) (h : TabS w p xs F) (i : Nat) (hx : tIx k xs = some i) :
    Calls Try.prog 13 #[.pointer (some ⟨p, 0, none⟩), .string k] w (IdPost w p xs F k) := by
  have Htab := Lib.hid h
  obtain ⟨mb, lv, hb, hm, hl, hpm, hlp, hlm, hF⟩ := h
  have hc := cell_of_blk (i := 0) hb rfl
  have hlk := lookV_kvF str_inj k 0 xs
  rw [hx] at hlk
  have hk := keys_kvF (enc := Value.string) (K := fun v => ∃ s, v = .string s) (fun a => ⟨a, rfl⟩) 0 xs
  have Hlk := Lib.hid hlk
  clear hlk
  have Hk := Lib.hid hk
  clear hk
  have Hx := Lib.hid hx
  clear hx hF hlp hlm
  go_enter Try.func13, Try.ntmps13
  go_wp2_with (first
    | (at_lookup; refine wp_lookup_at rfl _ _ _ _ rfl 9 3 _ koS Try.underlying67 _ (zero3 _) mb _ rfl hm Hk.out (.string k) rfl ⟨_, rfl⟩ ?_; rw [Hlk.out]; simp only [Option.map_some, Option.getD_some, Option.isSome_some, if_true]))
  go_ret
  exact ⟨by simp [tNo, Hx.out], F, by simpa [tAdd, Hx.out] using Htab.out, Chg.refl _ _, fun _ h => .inl h⟩

theorem idS (p : Nat) (xs : List ByteArray) (F : Nat → Prop) (k : ByteArray) (w : World) (h : TabS w p xs F) (hn : xs.length < 1000000) :
    Calls Try.prog 13 #[.pointer (some ⟨p, 0, none⟩), .string k] w (IdPost w p xs F k) := by
  cases hx : tIx k xs with
  | none => exact idS_new p xs F k w h hn hx
  | some i => exact idS_old p xs F k w h i hx

/-- What Key yields. -/
def keyOut (xs : List ByteArray) (i : Int) : Value :=
  if 0 ≤ i ∧ i < xs.length then .tuple #[.string (xs.getD i.toNat ByteArray.empty), .int .i64 0] else .tuple #[.string ByteArray.empty, .int .i64 6]

set_option maxHeartbeats 400000 in
theorem keyS (p : Nat) (xs : List ByteArray) (F : Nat → Prop) (i : Int) (w : World) (h : TabS w p xs F) :
    Calls Try.prog 21 #[.pointer (some ⟨p, 0, none⟩), .int .i64 i] w fun e w' => e = .returned (keyOut xs i) ∧ w = w' := by
  obtain ⟨mb, lv, hb, hm, hl, hpm, hlp, hlm, hF⟩ := h
  have hc := cell_of_blk (i := 1) hb rfl
  obtain ⟨hlen, hmax, ad, cap, rfl, h4, h5, h6, h7⟩ := Rd.of_owns hl
  by_cases h0 : i < 0
  · have h0' : decide (i < 0) = true := by simpa using h0
    go_enter Try.func21, Try.ntmps21
    go_wp2
    go_ret2
    refine ⟨?_, rfl⟩
    rw [keyOut, if_neg (by omega)]; rfl
  · have h0' : decide (i < 0) = false := by simpa using h0
    by_cases h1 : i < xs.length
    · have h1' : decide ((xs.length : Int) ≤ i) = false := by simpa using h1
      obtain ⟨b, off, rfl, hG, hcl⟩ : ∃ b off, ad = some ⟨b, off, none⟩ ∧ _ ∧ _ := h7.resolve_left (by omega)
      obtain ⟨k, rfl⟩ := Int.eq_ofNat_of_zero_le (show 0 ≤ i by omega)
      have hk : k < xs.length := by omega
      have hce := hcl k (.string xs[k]) (by simp [hk])
      have hmm : xs.length ≤ 9223372036854775807 := by unfold maxLen at hmax; omega
      clear hcl h0 h6 h7
      go_enter Try.func21, Try.ntmps21
      go_wp2
      go_ret2
      refine ⟨?_, rfl⟩
      rw [keyOut, if_pos (by omega)]; simp [hk]
    · have h1' : decide ((xs.length : Int) ≤ i) = true := by simpa using h1
      go_enter Try.func21, Try.ntmps21
      go_wp2
      go_ret2
      refine ⟨?_, rfl⟩
      rw [keyOut, if_neg (by omega)]; rfl

set_option maxHeartbeats 400000 in
theorem sameS (v v' : Value) (xs ys : List ByteArray) (G G' : Nat → Prop) (w : World) (h : Rd w v 1 xs.length (xs.map .string) G) (h' : Rd w v' 1 ys.length (ys.map .string) G') :
    Calls Try.prog 24 #[v, v'] w fun e w' => e = .returned (.bool (decide (xs = ys))) ∧ ∃ n, w' = w.drewN n := by
  obtain ⟨hlen, hmax, ad, cap, rfl, h4, h5, h6, h7⟩ := h
  obtain ⟨hlen', hmax', ad', cap', rfl, h4', h5', h6', h7'⟩ := h'
  unfold maxLen at hmax hmax'
  clear h4 h5 h6 h4' h5' h6' hlen hlen'
  by_cases hl : xs.length = ys.length
  · have hl' : ((xs.length : Int) == ys.length) = true := by simp [hl]
    have Hl := Lib.hid hl
    clear hl
    go_enter Try.func24, Try.ntmps24
    go_wp2
    go_loopw [5] (fun i wr => ∃ k : Nat, k ≤ xs.length ∧ i = .int .i64 k ∧ xs.take k = ys.take k ∧ ∃ n, wr = w.drewN n) (fun i _ => xs.length - (intOf i).toNat)
    case atStart => exact ⟨0, Nat.zero_le _, rfl, by simp, 0, rfl⟩
    case round =>
      obtain ⟨k, hk, rfl, htk, n, rfl⟩ := hrel
      have Htk := Lib.hid htk
      clear htk
      by_cases hlt : k < xs.length
      · have hlt' : k < ys.length := by have := Hl.out; omega
        obtain ⟨b, off, rfl, hG, hcl⟩ : ∃ b off, ad = some ⟨b, off, none⟩ ∧ _ ∧ _ := h7.resolve_left (by omega)
        obtain ⟨b', off', rfl, hG', hcl'⟩ : ∃ b off, ad' = some ⟨b, off, none⟩ ∧ _ ∧ _ := h7'.resolve_left (by omega)
        have hc := hcl k (.string xs[k]) (by simp [hlt])
        have hc' := hcl' k (.string ys[k]) (by simp [hlt'])
        clear hcl hcl' h7 h7'
        have hb1 : (0 : Int) ≤ (k : Int) := by omega
        have hb2 : (k : Int) < xs.length := by omega
        have hb3 : (k : Int) < ys.length := by omega
        go_wp2
        go_quiet (fail)
        go_wp2
        · have hne : (!xs[k].toList == ys[k].toList) = true := by assumption
          rw [toList_beq] at hne
          go_ret
          exact ⟨by simp; rintro rfl; simp at hne, _, World.drewN_drewN _ _ _⟩
        · have heq : (!xs[k].toList == ys[k].toList) = false := by assumption
          rw [toList_beq] at heq
          go_round
          case rel => exact ⟨k + 1, by omega, by go_num, by rw [List.take_succ_eq_append_getElem hlt, List.take_succ_eq_append_getElem hlt', Htk.out]; simp at heq; rw [heq], n + nq, rfl⟩
          case measure => simp [intOf]; omega
      · go_wp2
        go_ret
        have hke : k = xs.length := by omega
        subst hke
        have := Htk.out
        rw [List.take_length, Hl.out, List.take_length] at this
        exact ⟨by simp [this], n, rfl⟩
  · have hl' : ((xs.length : Int) == ys.length) = false := by simp; omega
    go_enter Try.func24, Try.ntmps24
    go_wp2
    go_ret
    exact ⟨by simp; rintro rfl; exact hl rfl, 0, rfl⟩

set_option maxHeartbeats 400000 in
theorem cloneS (v : Value) (n : Nat) (xs : List Value) (G : Nat → Prop) (w : World) (h : Rd w v 1 n xs G) (hn : n * 16 ≤ 140737488355328) (h1 : ∀ u ∈ xs, u.oneCell' = true) :
    Calls Try.prog 30 #[v] w fun e w' => ∃ v', e = .returned v' ∧ w'.ownsRow w.heap.size 9 1 v' n xs ∧ Chg (fun _ => False) w w' := by
  obtain ⟨hlen, hmax, ad, cap, rfl, h4, h5, h6, h7⟩ := h
  unfold maxLen at hmax
  have hs := fun (w : World) (a : Option Addr) (n c n' c' : Nat) => Lib.run_eql_slice_nil (P := Try.prog) w 36 9 a n c n' c' Try.underlying36
  obtain ⟨i0, hi, hz0, hz1, hz2⟩ := info_parts info9
  cases ad with
  | none =>
    obtain ⟨rfl, rfl⟩ := h6 rfl
    go_enter Try.func30, Try.ntmps30
    go_wp2
    go_ret
    have : xs = [] := by simpa using hlen
    subst this
    exact ⟨_, rfl, World.ownsRow_nil _ _ _ _, Chg.refl _ _⟩
  | some ad =>
    have hnews : ∀ (o : Obj) j u, xs[j]? = some u → (w.alloc o).cell? (ad.add j) = some u := by
      intro o j u hu
      rcases h7 with rfl | ⟨b, off, he, _, hc⟩
      · have : xs = [] := by simpa using hlen
        subst this; simp at hu
      · simp only [Option.some.injEq] at he
        subst he
        have hadd : (⟨b, off, none⟩ : Addr).add j = ⟨b, off + j, none⟩ := by unfold Addr.add; split <;> simp_all
        rw [hadd]
        exact (chg_alloc (fun _ => False) w o).cell (hc j u hu) (fun e => e)
    have hown : ∀ (cs : Array Value), cs.size = 0 → (w.alloc (.cells cs 9)).ownsRow w.heap.size 9 1 (.slice (some ⟨w.heap.size, 0, none⟩) 0 0) 0 [] :=
      fun cs hcs => World.ownsRow_made w cs 0 (Nat.le_refl _) (Nat.zero_le _) (by simpa using hcs)
    have Hnews := Lib.hid hnews
    clear hnews
    have Hown := Lib.hid hown
    clear hown h7 h6
    go_enter Try.func30, Try.ntmps30
    go_wp2_with (first
      | (at_builtin; refine wpList_append_own _ rfl _ _ 36 rfl w.heap.size 9 i0 _ 1 16 Try.underlying36 hi hz0 hz1 hz2 rfl (by decide) _ 0 [] rfl (Hown.out _ rfl) ad n cap xs rfl (by simpa using hlen) (Hnews.out _) h1 ?_ ?_ ?_ ?_))
    · unfold maxLen; omega
    · omega
    · simp
    intro v' w1 hv hg _
    go_wp2_with fail
    go_ret
    refine ⟨_, rfl, by simpa using hv, ?_⟩
    refine (chg_alloc _ _ _).grown hg (fun k hk hlt => ?_)
    simp only [Value.ownBlock, Option.some.injEq] at hk
    omega
end Go.Proofs.Ytlbppfdkcaoijaa
