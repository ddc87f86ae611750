/- IdsKinds: the walk. -/
import Derived.Test.YtlbppfdkcaoijaaP1
import Derived.Test.YtlbppfdkcaoijaaA4
import Derived.Test.YtlbppfdkcaoijaaK3
import Derived.Test.YtlbppfdkcaoijaaU1
namespace Go.Proofs.Ytlbppfdkcaoijaa
open Go.RowKit

section
variable {α β : Type} [DecidableEq α] [DecidableEq β] {f : α → β}
theorem tIx_map {k : α} : ∀ {xs : List α}, (∀ x ∈ xs, f x = f k → x = k) → tIx (f k) (xs.map f) = tIx k xs
  | [], _ => rfl
  | x :: xs, h => by
    have ih := tIx_map (k := k) (xs := xs) (fun y hy => h y (by simp [hy]))
    simp only [List.map_cons, tIx, ih]
    by_cases hx : x = k
    · simp [hx]
    · rw [if_neg hx, if_neg (fun e => hx (h x (by simp) e))]
theorem tNo_map {k : α} {xs : List α} (h : ∀ x ∈ xs, f x = f k → x = k) : tNo (f k) (xs.map f) = tNo k xs := by simp [tNo, tIx_map h]
theorem tAdd_map {k : α} {xs : List α} (h : ∀ x ∈ xs, f x = f k → x = k) : tAdd (f k) (xs.map f) = (tAdd k xs).map f := by
  unfold tAdd; rw [tIx_map h]; split <;> simp
end

def f2 (n : Int) : ByteArray := ⟨#[UInt8.ofNat n.toNat]⟩
def f3 (n : Int) : Ar := ⟨n, 7⟩
theorem f2_inj {a b : Int} (ha : 0 ≤ a ∧ a ≤ 255) (hb : 0 ≤ b ∧ b ≤ 255) (h : f2 a = f2 b) : a = b := by
  simp only [f2, ByteArray.mk.injEq, Array.mk.injEq, List.cons.injEq, and_true] at h
  have := congrArg UInt8.toNat h
  simp at this
  omega
theorem f3_inj {a b : Int} (h : f3 a = f3 b) : a = b := by simpa [f3] using h

/-- The three tables go on alike. -/
def KindRel (w : World) (pt pu pv : Nat) (zs : List Int) (wr : World) : Prop :=
  ∃ Ft Fu Fv, TabU wr pt zs Ft ∧ TabS wr pu (zs.map f2) Fu ∧ TabA wr pv (zs.map f3) Fv ∧ (∀ b, Ft b → ¬ Fu b) ∧ (∀ b, Ft b → ¬ Fv b) ∧ (∀ b, Fu b → ¬ Fv b) ∧ Chg (fun _ => False) w wr ∧
    (∀ b, Ft b → w.heap.size ≤ b) ∧ (∀ b, Fu b → w.heap.size ≤ b) ∧ (∀ b, Fv b → w.heap.size ≤ b)

theorem conv1 (w : World) (x : Int) : (convert 22 9 (.slice (some ⟨w.heap.size, 0, none⟩) 1 1)).run Try.prog (w.alloc (.cells #[.int .u8 x] 5)) = .ok (.string (f2 x)) (w.alloc (.cells #[.int .u8 x] 5)) := by
  have := run_convert_bytes_arg (P := Try.prog) (w.alloc (.cells #[.int .u8 x] 5)) 22 5 Try.underlying22 Try.underlying5 w.heap.size 0 1 1 [x] rfl (fun i hi => by
    obtain rfl : i = 0 := by omega
    exact cell_of_blk (blk_alloc_new w _) rfl) 9 Try.underlying9
  rw [this]; rfl

theorem rd_nil (w : World) (size : Nat) (G : Nat → Prop) : Rd w (.slice none 0 0) size 0 [] G :=
  ⟨by simp, Nat.zero_le _, none, 0, rfl, Nat.le_refl _, Nat.zero_le _, fun _ => ⟨rfl, rfl⟩, .inl rfl⟩

theorem kinds_big (n : Nat) (cap : Nat) (ad : Option Addr) (w : World) (hn : 200 < n) :
    Calls Try.prog 3 #[.slice ad n cap] w fun e w' => e = .returned (.bool true) ∧ Chg (fun _ => False) w w' := by
  have h1 : (200 : Int) < (n : Int) := by omega
  go_enter Try.func3, Try.ntmps3
  go_wp2_with (go_at_call 8; refine (wakesS _).mono ?_; rintro e w1 ⟨rfl, hc⟩)
  go_ret
  exact ⟨rfl, by assumption⟩

set_option maxHeartbeats 1000000 in
theorem kinds_small (v : Value) (xs : List Int) (G : Nat → Prop) (w : World) (h : Rd w v 1 xs.length (xs.map (.int .u8)) G) (hb : ∀ x ∈ xs, 0 ≤ x ∧ x ≤ 255) (hn : xs.length ≤ 200) :
    Calls Try.prog 3 #[v] w fun e w' => e = .returned (.bool true) ∧ Chg (fun _ => False) w w' := by
  obtain ⟨hlen, hmax, ad, cap, rfl, h4, h5, h6, h7⟩ := h
  clear h4 h5 h6 hlen hmax
  have Hb := Lib.hid hb
  clear hb
  have h1 : ¬ (200 : Int) < (xs.length : Int) := by omega
  go_enter Try.func3, Try.ntmps3
  go_wp2_with fail
  refine (newU _ [] _ _ (rd_nil _ 1 (fun _ => False)) (by decide)).mono ?_
  rintro e w1 ⟨pt, Ft, rfl, hT, hC1, hFt⟩
  go_wp2_with fail
  refine (newS _ [] _ _ (rd_nil _ 1 (fun _ => False)) (by decide)).mono ?_
  rintro e w2 ⟨pu, Fu, rfl, hU, hC2, hFu⟩
  go_wp2_with fail
  refine (newA _ [] _ _ (rd_nil _ 2 (fun _ => False)) (by decide)).mono ?_
  rintro e w3 ⟨pv, Fv, rfl, hV, hC3, hFv⟩
  have HR0 : Hid (KindRel w pt pu pv [] w3) := by
    have s1 := hC1.size
    have s2 := hC2.size
    refine ⟨Ft, Fu, Fv, (hT.chg hC2 (fun _ _ e => e)).chg hC3 (fun _ _ e => e), hU.chg hC3 (fun _ _ e => e), hV, ?_, ?_, ?_, (hC1.trans hC2).trans hC3, hFt, ?_, ?_⟩
    · intro b h1 h2; have := hT.lt b h1; have := hFu b h2; omega
    · intro b h1 h2; have := hT.lt b h1; have := hFv b h2; omega
    · intro b h1 h2; have := hU.lt b h1; have := hFv b h2; omega
    · intro b h1; have := hFu b h1; omega
    · intro b h1; have := hFv b h1; omega
  clear hT hU hV hC1 hC2 hC3 hFt hFu hFv
  go_wp2_with fail
  go_loopw [6] (fun i wr => ∃ k : Nat, k ≤ xs.length ∧ i = .int .i64 k ∧ KindRel w pt pu pv (tAll (xs.take k)) wr) (fun i _ => xs.length - (intOf i).toNat)
  case atStart => exact ⟨0, Nat.zero_le _, rfl, HR0.out⟩
  case round =>
    obtain ⟨k, hk, rfl, hR⟩ := hrel
    have HR := Lib.hid hR
    clear hR HR0
    by_cases hlt : k < xs.length
    · obtain ⟨b, off, rfl, hG, hcl⟩ : ∃ b off, ad = some ⟨b, off, none⟩ ∧ _ ∧ _ := h7.resolve_left (by omega)
      obtain ⟨Ft, Fu, Fv, hT, hU, hV, d1, d2, d3, hC, g1, g2, g3⟩ := HR.out
      obtain ⟨x, hx⟩ : ∃ x, x = xs[k] := ⟨_, rfl⟩
      have hcl0 : w.cell? ⟨b, off + k, none⟩ = some (.int .u8 x) := hcl k (.int .u8 x) (by simp [hlt, hx])
      have hc : wr.cell? ⟨b, off + k, none⟩ = some (.int .u8 x) := hC.cell hcl0 (fun e => e)
      have hxr : 0 ≤ x ∧ x ≤ 255 := by rw [hx]; exact Hb.out _ (List.getElem_mem hlt)
      have Hx := Lib.hid hx
      have hb1 : (0 : Int) ≤ (k : Int) := by omega
      have hb2 : (k : Int) < xs.length := by omega
      have hlz : (tAll (xs.take k)).length ≤ 200 := by have := tAll_len (xs.take k); simp at this; omega
      have hr : ∀ z ∈ tAll (xs.take k), 0 ≤ z ∧ z ≤ 255 := fun z hz => Hb.out z (List.mem_of_mem_take (mem_tAll.1 hz))
      have htk := tAll_take xs k hlt
      rw [← hx] at htk
      have Htk := Lib.hid htk
      have Hr := Lib.hid hr
      clear hcl h7 hx htk hr
      generalize tAll (xs.take k) = zs at *
      have hbw := World.block_lt_of_cell? _ _ (hcl0 : w.cell? ⟨b, off + k, none⟩ = _)
      simp only at hbw
      go_wp2_with fail
      refine (idU pt zs Ft x _ hT (by omega)).mono ?_
      rintro e w4 ⟨rfl, Ft', hT', hC4, hFt'⟩
      have hc4 := hC4.cell hc (fun e => by have := g1 _ e; simp only at this; omega)
      have hcv := conv1 w4 x
      have bt : Hid (∀ b, Ft' b → Ft b ∨ (wr.heap.size ≤ b ∧ b < w4.heap.size)) := Lib.hid (fun b h1 => (hFt' b h1).imp id (fun e => ⟨e, hT'.lt b h1⟩))
      have hU4 := (hU.chg hC4 (fun b h1 h2 => d1 b h2 h1)).chg (chg_alloc (fun _ => False) w4 (.cells #[.int .u8 x] 5)) (fun _ _ e => e)
      have hV4 := (hV.chg hC4 (fun b h1 h2 => d2 b h2 h1)).chg (chg_alloc (fun _ => False) w4 (.cells #[.int .u8 x] 5)) (fun _ _ e => e)
      have hT4 := hT'.chg (chg_alloc (fun _ => False) w4 (.cells #[.int .u8 x] 5)) (fun _ _ e => e)
      have s4 := hC4.size
      have s0 := hC.size
      go_wp2_with fail
      refine (idS pu _ Fu (f2 x) _ hU4 (by simp; omega)).mono ?_
      rintro e w5 ⟨rfl, Fu', hU', hC5, hFu'⟩
      rw [tNo_map (fun z hz e => f2_inj (Hr.out z hz) hxr e)]
      rw [tAdd_map (fun z hz e => f2_inj (Hr.out z hz) hxr e)] at hU'
      have hc5 := hC5.cell ((chg_alloc (fun _ => False) w4 (.cells #[.int .u8 x] 5)).cell hc4 (fun e => e)) (fun e => by have := g2 _ e; simp only at this; omega)
      have hV5 := hV4.chg hC5 (fun b h1 h2 => d3 b h2 h1)
      have s5 := hC5.size
      simp at s5
      have bu : Hid (∀ b, Fu' b → Fu b ∨ (w4.heap.size + 1 ≤ b ∧ b < w5.heap.size)) := Lib.hid (fun b h1 => (hFu' b h1).imp id (fun e => ⟨by simpa using e, hU'.lt b h1⟩))
      have hT5 := hT4.chg hC5 (fun b h1 h2 => by
        rcases hFt' b h1 with h | h
        · exact d1 b h h2
        · have := hU.lt b h2; omega)
      clear hcv hc hc4 hT' hT4 hU4 hV4
      go_wp2_with fail
      refine (idA pv _ Fv (f3 x) _ hV5 (by simp; omega)).mono ?_
      rintro e w6 ⟨rfl, Fv', hV', hC6, hFv'⟩
      rw [tNo_map (fun z hz e => f3_inj e)]
      rw [tAdd_map (fun z hz e => f3_inj e)] at hV'
      go_wp2_with fail
      go_roundw
      case rel =>
        refine ⟨k + 1, by omega, by go_num, ?_⟩
        rw [Htk.out]
        have lt := hT.lt
        have lu := hU.lt
        have lv := hV.lt
        refine ⟨Ft', Fu', Fv', hT5.chg hC6 ?_, hU'.chg hC6 ?_, hV', ?_, ?_, ?_, (((hC.then' hC4 (fun b _ e => by have := g1 b e; omega)).alloc _).then' hC5 (fun b _ e => by have := g2 b e; omega)).then' hC6 (fun b _ e => by have := g3 b e; omega), ?_, ?_, ?_⟩
        · intro b h1 h2
          rcases bt.out b h1 with h | h
          · exact d2 b h h2
          · have := lv b h2; omega
        · intro b h1 h2
          rcases bu.out b h1 with h | h
          · exact d3 b h h2
          · have := lv b h2; omega
        · intro b h1 h2
          rcases bt.out b h1 with h | h <;> rcases bu.out b h2 with h' | h'
          · exact d1 b h h'
          · have := lt b h; omega
          · have := lu b h'; omega
          · omega
        · intro b h1 h2
          rcases bt.out b h1 with h | h <;> rcases hFv' b h2 with h' | h'
          · exact d2 b h h'
          · have := lt b h; omega
          · have := lv b h'; omega
          · omega
        · intro b h1 h2
          rcases bu.out b h1 with h | h <;> rcases hFv' b h2 with h' | h'
          · exact d3 b h h'
          · have := lu b h; omega
          · have := lv b h'; omega
          · omega
        · intro b h1
          rcases bt.out b h1 with h | h
          · exact g1 b h
          · omega
        · intro b h1
          rcases bu.out b h1 with h | h
          · exact g2 b h
          · omega
        · intro b h1
          rcases hFv' b h1 with h | h
          · exact g3 b h
          · omega
      case measure => simp [intOf]; omega
    · obtain ⟨Ft, Fu, Fv, hT, hU, hV, d1, d2, d3, hC, g1, g2, g3⟩ := HR.out
      clear HR h7
      go_wp2_with fail
      refine (lenU pt _ Ft _ hT).mono ?_
      rintro e w4 ⟨rfl, rfl⟩
      go_wp2_with fail
      refine (lenS pu _ Fu _ hU).mono ?_
      rintro e w4 ⟨rfl, rfl⟩
      rw [List.length_map]
      go_wp2_with fail
      refine (lenU pt _ Ft _ hT).mono ?_
      rintro e w4 ⟨rfl, rfl⟩
      go_wp2_with fail
      refine (lenA pv _ Fv _ hV).mono ?_
      rintro e w4 ⟨rfl, rfl⟩
      rw [List.length_map]
      go_wp2_with fail
      refine (wakesS _).mono ?_
      rintro e w5 ⟨rfl, hC5⟩
      go_wp2_with fail
      go_ret
      exact ⟨rfl, hC.trans hC5⟩

open Go.ChangeShapes Go.WideShapes in
theorem kinds_reads {H : Type} {enc : TypeId × Value → H} (W : World) (base : Nat) {v0 : Value} {d0 : DataW H} {p0 : List MemPlace}
    (o0 : Value.okWide Try.prog W .any base 22 v0) (h0 : DataW.Trod enc Try.prog W 0 (fun _ => true) true 22 v0 d0 p0) :
    Calls Try.prog 3 #[v0] W fun e w' => e = .returned (.bool true) ∧ Chg (fun _ => False) W w' := by
  obtain ⟨xs, hr, hwf⟩ := rd_ints Try.underlying22 Try.underlying5 (by kernel_rfl) o0 h0
  by_cases hn : xs.length ≤ 200
  · refine kinds_small v0 xs _ W hr (fun x hx => ?_) hn
    have := hwf x hx
    simpa [Lit.wf, IntKind.min, IntKind.max, IntKind.signed, IntKind.bits] using this
  · have hor : 200 < xs.length := by omega
    obtain ⟨_, _, ad, cap, rfl, _⟩ := hr
    exact kinds_big xs.length cap ad W hor
end Go.Proofs.Ytlbppfdkcaoijaa
