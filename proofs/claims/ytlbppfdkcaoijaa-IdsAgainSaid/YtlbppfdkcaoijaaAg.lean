/- IdsAgain: the walk. -/
import Derived.Test.YtlbppfdkcaoijaaP1
import Derived.Test.YtlbppfdkcaoijaaA4
import Derived.Test.YtlbppfdkcaoijaaRds
namespace Go.Proofs.Ytlbppfdkcaoijaa
open Go.RowKit

set_option maxHeartbeats 400000 in
theorem idS_got (p : Nat) (xs : List ByteArray) (F : Nat → Prop) (k : ByteArray) (w : World) (h : TabS w p xs F) (i : Nat) (hx : tIx k xs = some i) :
    Calls Try.prog 13 #[.pointer (some ⟨p, 0, none⟩), .string k] w fun e w' => e = .returned (.int .i64 i) ∧ w = w' := by
  obtain ⟨mb, lv, hb, hm, hl, hpm, hlp, hlm, hF⟩ := h
  have hc := cell_of_blk (i := 0) hb rfl
  have hlk := lookV_kvF str_inj k 0 xs
  rw [hx] at hlk
  have hk := keys_kvF (enc := Value.string) (K := fun v => ∃ s, v = .string s) (fun a => ⟨a, rfl⟩) 0 xs
  have Hlk := Lib.hid hlk
  clear hlk
  have Hk := Lib.hid hk
  clear hk
  clear hx hF hlp hlm
  go_enter Try.func13, Try.ntmps13
  go_wp2_with (first
    | (at_lookup; refine wp_lookup_at rfl _ _ _ _ rfl 9 3 _ koS Try.underlying67 _ (zero3 _) mb _ rfl hm Hk.out (.string k) rfl ⟨_, rfl⟩ ?_; rw [Hlk.out]; simp only [Option.map_some, Option.getD_some, Option.isSome_some, if_true]))
  go_ret
  exact ⟨by simp, rfl⟩

theorem findS_some (p : Nat) (xs : List ByteArray) (F : Nat → Prop) (k : ByteArray) (w : World) (h : TabS w p xs F) (i : Nat) (hx : tIx k xs = some i) :
    Calls Try.prog 19 #[.pointer (some ⟨p, 0, none⟩), .string k] w fun e w' => e = .returned (.tuple #[.int .i64 i, .bool true]) ∧ w = w' := by
  have := findS p xs F k w h; rw [hx] at this; exact this
theorem findS_none (p : Nat) (xs : List ByteArray) (F : Nat → Prop) (k : ByteArray) (w : World) (h : TabS w p xs F) (hx : tIx k xs = none) :
    Calls Try.prog 19 #[.pointer (some ⟨p, 0, none⟩), .string k] w fun e w' => e = .returned (.tuple #[.int .i64 0, .bool false]) ∧ w = w' := by
  have := findS p xs F k w h; rw [hx] at this; exact this

theorem again_big (n : Nat) (cap : Nat) (ad : Option Addr) (k : ByteArray) (w : World) (hn : 200 < n) :
    Calls Try.prog 7 #[.slice ad n cap, .string k] w fun e w' => e = .returned (.bool true) ∧ Chg (fun _ => False) w w' := by
  have h1 : (200 : Int) < (n : Int) := by omega
  go_enter Try.func7, Try.ntmps7
  go_wp2_with (go_at_call 8; refine (wakesS _).mono ?_; rintro e w1 ⟨rfl, hc⟩)
  go_ret
  exact ⟨rfl, by assumption⟩

set_option maxHeartbeats 1000000 in
theorem again_small (v : Value) (xs : List ByteArray) (G : Nat → Prop) (k : ByteArray) (w : World) (h : Rd w v 1 xs.length (xs.map .string) G) (hn : xs.length ≤ 200) :
    Calls Try.prog 7 #[v, .string k] w fun e w' => e = .returned (.bool true) ∧ Chg (fun _ => False) w w' := by
  have hrd := Lib.hid h
  obtain ⟨hlen, hmax, ad, cap, rfl, h4, h5, h6, h7⟩ := h
  clear h4 h5 h6 hlen hmax
  have h1 : ¬ (200 : Int) < (xs.length : Int) := by omega
  have hnd := Lib.hid (nodup_tAll xs)
  have hle := tAll_len xs
  go_enter Try.func7, Try.ntmps7
  go_wp2_with fail
  refine (newS _ xs _ _ hrd.out (by omega)).mono ?_
  rintro e w1 ⟨pt, Ft, rfl, hT, hC1, hFt⟩
  go_wp2_with fail
  refine (keysS pt _ Ft _ hT (by omega)).mono ?_
  rintro e w2 ⟨kv, rfl, hkv, hC2⟩
  go_wp2_with fail
  refine (newS _ (tAll xs) _ _ (Rd.of_owns hkv) (by omega)).mono ?_
  rintro e w3 ⟨pu, Fu, rfl, hU, hC3, hFu⟩
  rw [tAll_of_nodup hnd.out] at hU
  have hT3 := (hT.chg hC2 (fun _ _ e => e)).chg hC3 (fun _ _ e => e)
  have hkv3 := owns_chg hkv hC3 (fun _ _ e => e)
  have hC := (hC1.trans hC2).trans hC3
  have hdis : ∀ b, Fu b → ¬ Ft b := fun b hb hb' => by have := hT.lt b hb'; have := hFu b hb; have := hC2.size; omega
  have hdk : ∀ b, Ft b → kv.ownBlock ≠ some b := fun b hb hk => by have := hT.lt b hb; have := (hkv.lt b hk).1; omega
  have hFt' : ∀ b, Ft b → w.heap.size ≤ b := hFt
  have hmem : Hid (∀ x ∈ xs, x ∈ tAll xs) := Lib.hid (fun x hx => mem_tAll.2 hx)
  generalize tAll xs = ys at *
  go_wp2_with fail
  go_loopw [8] (fun i wr => ∃ k : Nat, k ≤ xs.length ∧ i = .int .i64 k ∧ Chg (fun _ => False) w3 wr) (fun i _ => xs.length - (intOf i).toNat)
  case atStart => exact ⟨0, Nat.zero_le _, rfl, Chg.refl _ _⟩
  case round =>
    obtain ⟨j, hj, rfl, hCr⟩ := hrel
    by_cases hlt : j < xs.length
    · obtain ⟨b, off, rfl, hG, hcl⟩ : ∃ b off, ad = some ⟨b, off, none⟩ ∧ _ ∧ _ := h7.resolve_left (by omega)
      have hc := (hC.trans hCr).cell (hcl j (.string xs[j]) (by simp [hlt])) (fun e => e)
      have hb1 : (0 : Int) ≤ (j : Int) := by omega
      have hb2 : (j : Int) < xs.length := by omega
      obtain ⟨i, hi⟩ := tIx_some_of_mem (hmem.out xs[j] (List.getElem_mem hlt))
      have c1 := fun n => idS_got pt ys Ft xs[j] (wr.drewN n) ((hT3.chg hCr (fun _ _ e => e)).chg (chg_drewN _ _ n) (fun _ _ e => e)) i hi
      have c2 := fun n => idS_got pu ys Fu xs[j] (wr.drewN n) ((hU.chg hCr (fun _ _ e => e)).chg (chg_drewN _ _ n) (fun _ _ e => e)) i hi
      have C1 := Lib.hid c1
      have C2 := Lib.hid c2
      clear c1 c2 hcl h7 hi
      go_wp2
      go_quiet ((first | (go_at_call 13; with_reducible exact quiet_left (C1.out _)) | (go_at_call 13; with_reducible exact quiet_left (C2.out _))))
      go_wp2
      go_round
      case rel => exact ⟨j + 1, by omega, by go_num, hCr.drewN _⟩
      case measure => simp [intOf]; omega
    · have hT4 := hT3.chg hCr (fun _ _ e => e)
      have hU4 := hU.chg hCr (fun _ _ e => e)
      have hkv4 := owns_chg hkv3 hCr (fun _ _ e => e)
      have hC4 := hC.trans hCr
      clear hT hU hT3 hkv hkv3 hC1 hC2 hC3 hC hCr h7
      have hb1 : (0 : Int) ≤ (ys.length : Int) := by omega
      have hb2 : (ys.length : Int) ≤ 200 := by omega
      cases hx : tIx k ys with
      | some i =>
        have Hx := Lib.hid hx
        have hiy := tIx_lt hx
        clear hx
        go_wp2_with fail
        refine (findS_some pt ys Ft k _ hT4 i Hx.out).mono ?_
        rintro e w4 ⟨rfl, rfl⟩
        go_wp2_with fail
        refine (findS_some pu ys Fu k _ hU4 i Hx.out).mono ?_
        rintro e w4 ⟨rfl, rfl⟩
        go_wp2_with fail
        refine (lenS pt ys Ft _ hT4).mono ?_
        rintro e w4 ⟨rfl, rfl⟩
        go_wp2_with fail
        refine (idS_got pt ys Ft k _ hT4 i Hx.out).mono ?_
        rintro e w4 ⟨rfl, rfl⟩
        go_wp2_with fail
        refine (lenS pt ys Ft _ hT4).mono ?_
        rintro e w4 ⟨rfl, rfl⟩
        go_wp2_with fail
        refine (lenS pu ys Fu _ hU4).mono ?_
        rintro e w4 ⟨rfl, rfl⟩
        go_wp2_with fail
        refine (keysS pu ys Fu _ hU4 (by omega)).mono ?_
        rintro e w5 ⟨kv2, rfl, hk2, hC5⟩
        go_wp2_with fail
        refine (sameS _ _ ys ys _ _ _ (Rd.of_owns hk2) (Rd.of_owns (owns_chg hkv4 hC5 (fun _ _ e => e)))).mono ?_
        rintro e w6 ⟨rfl, n, rfl⟩
        rw [decide_eq_true (rfl : ys = ys)]
        go_wp2_with fail
        refine (wakesS _).mono ?_
        rintro e w7 ⟨rfl, hC7⟩
        go_wp2_with fail
        go_ret
        exact ⟨rfl, ((hC4.trans hC5).drewN _).trans hC7⟩
      | none =>
        have Hx := Lib.hid hx
        clear hx
        go_wp2_with fail
        refine (findS_none pt ys Ft k _ hT4 Hx.out).mono ?_
        rintro e w4 ⟨rfl, rfl⟩
        go_wp2_with fail
        refine (findS_none pu ys Fu k _ hU4 Hx.out).mono ?_
        rintro e w4 ⟨rfl, rfl⟩
        go_wp2_with fail
        refine (lenS pt ys Ft _ hT4).mono ?_
        rintro e w4 ⟨rfl, rfl⟩
        go_wp2_with fail
        refine (idS_new pt ys Ft k _ hT4 (by omega) Hx.out).mono ?_
        rintro e w4 ⟨rfl, F4, hT5, hC5, hF5⟩
        have hU5 := hU4.chg hC5 hdis
        have hkv5 := owns_chg hkv4 hC5 (fun b hb hb' => hdk b hb' hb)
        have hC6 := hC4.then' hC5 (fun b hb hb' => by have := hFt' b hb'; omega)
        have e1 : tNo k ys = ys.length := by simp [tNo, Hx.out]
        have e2 : tAdd k ys = ys ++ [k] := by simp [tAdd, Hx.out]
        rw [e2] at hT5
        rw [e1]
        clear e1 e2
        go_wp2_with fail
        refine (lenS pt _ F4 _ hT5).mono ?_
        rintro e w4 ⟨rfl, rfl⟩
        rw [List.length_append]
        go_wp2_with fail
        refine (lenS pu ys Fu _ hU5).mono ?_
        rintro e w4 ⟨rfl, rfl⟩
        go_wp2_with fail
        refine (keysS pu ys Fu _ hU5 (by omega)).mono ?_
        rintro e w5 ⟨kv2, rfl, hk2, hC7⟩
        go_wp2_with fail
        refine (sameS _ _ ys ys _ _ _ (Rd.of_owns hk2) (Rd.of_owns (owns_chg hkv5 hC7 (fun _ _ e => e)))).mono ?_
        rintro e w6 ⟨rfl, n, rfl⟩
        rw [decide_eq_true (rfl : ys = ys)]
        go_wp2_with fail
        refine (wakesS _).mono ?_
        rintro e w7 ⟨rfl, hC8⟩
        go_wp2_with fail
        go_ret
        exact ⟨rfl, ((hC6.trans hC7).drewN _).trans hC8⟩

open Go.ChangeShapes Go.WideShapes in
open Go.ChangeMaps (open_string) in
theorem again_reads {H : Type} {enc : TypeId × Value → H} (W : World) (base : Nat) {v0 v1 : Value} {d0 d1 : DataW H} {p0 p1 : List MemPlace}
    (o0 : Value.okWide Try.prog W .any base 36 v0) (h0 : DataW.Trod enc Try.prog W 0 (fun _ => true) true 36 v0 d0 p0)
    (o1 : Value.okWide Try.prog W .any base 9 v1) (h1 : DataW.Trod enc Try.prog W 0 (fun _ => true) true 9 v1 d1 p1) :
    Calls Try.prog 7 #[v0, v1] W fun e w' => e = .returned (.bool true) ∧ Chg (fun _ => False) W w' := by
  obtain ⟨k, rfl, rfl, rfl, _⟩ := open_string Try.underlying9 o1 h1
  obtain ⟨xs, hr, _⟩ := rd_strings Try.underlying36 Try.underlying9 (by kernel_rfl) o0 h0
  by_cases hn : xs.length ≤ 200
  · exact again_small v0 xs _ k W hr hn
  · obtain ⟨_, _, ad, cap, rfl, _⟩ := hr
    exact again_big xs.length cap ad k W (by omega)
end Go.Proofs.Ytlbppfdkcaoijaa
