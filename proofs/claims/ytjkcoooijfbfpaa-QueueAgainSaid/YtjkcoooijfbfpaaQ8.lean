/- QueueAgain. -/
import Derived.Test.YtjkcoooijfbfpaaQ6
namespace Go.Proofs.Ytjkcoooijfbfpaa
open Go.RowKit Go.Shelf

/-- A queue in which nobody waits. -/
def e0 (n m : Nat) : Qs := ⟨List.replicate n false, [], m⟩
/-- .. and one in which one waits. -/
def e1 (n m j : Nat) : Qs := ⟨(List.replicate n false).set j true, [], m⟩
theorem e0_cnt (n m : Nat) : (e0 n m).cnt = 0 := by simp [Qs.cnt, e0, List.count_replicate]
theorem e0_may (n m : Nat) (x : Int) : (e0 n m).may x = (decide (0 ≤ x) && decide (x < n)) := by
  unfold Qs.may e0
  simp only [List.length_replicate, List.getElem?_replicate]
  cases h : (decide (0 ≤ x) && decide (x < n))
  · simp
  · simp only [Bool.and_eq_true, decide_eq_true_eq] at h
    simp; split <;> rfl
theorem e0_add (n m j : Nat) (h : j < n) : (e0 n m).add j = e1 n m j := by
  have : (e0 n m).may j = true := by rw [e0_may]; simp; omega
  rw [Qs.add, if_pos this]; rfl
theorem e0_no (n m : Nat) (x : Int) (h : (e0 n m).may x = false) : (e0 n m).add x = e0 n m := by rw [Qs.add, if_neg (by rw [h]; simp)]
theorem e1_may (n m j : Nat) (h : j < n) : (e1 n m j).may j = false := by
  unfold Qs.may e1; simp [h]
theorem e1_add (n m j : Nat) (h : j < n) : (e1 n m j).add j = e1 n m j := by rw [Qs.add, if_neg (by rw [e1_may n m j h]; simp)]
theorem e1_cnt (n m j : Nat) (h : j < n) : (e1 n m j).cnt = 1 := by
  have := count_set (bs := List.replicate n false) (i := j) (by simp [h])
  simp [List.count_replicate] at this
  exact this
theorem e1_pick (n m j : Nat) (h : j < n) : (e1 n m j).pick = 0 := by
  unfold Qs.pick; rw [e1_cnt n m j h]; simp [e1]
theorem e1_next (n m j : Nat) (h : j < n) : (e1 n m j).next = j := by
  have hl : (prs (e1 n m j).bs (e1 n m j).bs.length).length = 1 := by rw [prs_all]; exact e1_cnt n m j h
  obtain ⟨y, hy⟩ : ∃ y, (prs (e1 n m j).bs (e1 n m j).bs.length)[0]? = some y := ⟨_, List.getElem?_eq_getElem (by omega)⟩
  obtain ⟨_, _, g3, _⟩ := prs_get _ _ _ _ hy
  have : y.2 = j := by
    simp only [e1, List.getElem?_set, List.getElem?_replicate, List.length_replicate] at g3
    split at g3
    · omega
    · split at g3 <;> simp at g3
  rw [Qs.next, e1_pick n m j h, hy]; exact this
theorem e1_took (n m j : Nat) (h : j < n) : (e1 n m j).took = e0 n (m + 1) := by
  unfold Qs.took
  rw [e1_next n m j h]
  simp [e1, e0]

theorem new_nil (w : World) : Rd w (.slice none 0 0) 1 ([] : List Int).length (([] : List Int).map (.int .i64)) (fun _ => False) :=
  ⟨rfl, Nat.zero_le _, none, 0, rfl, Nat.le_refl _, Nat.zero_le _, fun _ => ⟨rfl, rfl⟩, .inl rfl⟩

set_option maxHeartbeats 1000000 in
theorem again_big (n : Int) (ad : Option Addr) (m c : Nat) (w : World) (h : 300 < m ∨ 100000 < n) :
    Calls Try.prog 5 #[.int .i64 n, .slice ad m c] w fun e w' => e = .returned (.bool true) ∧ Chg (fun _ => False) w w' := by
  by_cases h1 : 300 < m
  · have k1 : decide ((300 : Int) < (m : Int)) = true := by simp; omega
    go_enter Try.func5, Try.ntmps5
    go_wp2_with fail
    refine (wakesQ _).mono ?_
    rintro e w1 ⟨rfl, hc⟩
    go_wp2_with fail
    go_ret
    exact ⟨rfl, hc⟩
  · have k1 : decide ((300 : Int) < (m : Int)) = false := by simp; omega
    have k2 : decide (100000 < n) = true := by simp; omega
    go_enter Try.func5, Try.ntmps5
    go_wp2_with fail
    refine (wakesQ _).mono ?_
    rintro e w1 ⟨rfl, hc⟩
    go_wp2_with fail
    go_ret
    exact ⟨rfl, hc⟩

set_option maxHeartbeats 4000000 in
theorem again_small (n : Int) (sl : Value) (l : List Int) (w : World) (h : Rd w sl 1 l.length (l.map (.int .i64)) (fun b => b < w.heap.size)) (hl : l.length ≤ 300) (hn : n ≤ 100000) :
    Calls Try.prog 5 #[.int .i64 n, sl] w fun e w' => e = .returned (.bool true) ∧ Chg (fun _ => False) w w' := by
  obtain ⟨hlen, hmax, ad, cap, rfl, h4, h5, h6, h7⟩ := h
  have H7 := Lib.hid h7
  clear h4 h5 h6 hlen hmax h7
  have k1 : decide ((300 : Int) < (l.length : Int)) = false := by simp; omega
  have k2 : decide (100000 < n) = false := by simp; omega
  have hnew := Lib.hid (newQ n _ [] _ w (new_nil w) hn)
  obtain ⟨N, hN⟩ : ∃ N, N = n.toNat := ⟨_, rfl⟩
  have HN := Lib.hid hN
  have hN6 : N ≤ 100000 := by omega
  clear hN
  go_enter Try.func5, Try.ntmps5
  go_wp2_with fail
  refine hnew.out.mono ?_
  rintro e w1 ⟨p, F, rfl, q1, c1, f1⟩
  rw [show Qs.new n [] = e0 N 0 by unfold Qs.new e0; rw [← HN.out]; rfl] at q1
  have Q1 := Lib.hid q1
  have C1 := Lib.hid c1
  have F1 := Lib.hid f1
  clear q1 c1 f1 hnew
  go_wp2_with fail
  go_loopw [6, 7] (fun mv iv wr => ∃ k m : Nat, k ≤ l.length ∧ m ≤ k ∧ iv = .int .i64 k ∧ mv = .int .i64 m ∧ QAt wr p (e0 N m) F ∧ Chg (fun _ => False) w wr) (fun _ i _ => l.length - (intOf i).toNat)
  case atStart => exact ⟨0, 0, by omega, by omega, rfl, rfl, Q1.out, C1.out⟩
  case round =>
    obtain ⟨k, m, hk, hm, rfl, rfl, hq, hc⟩ := hrel
    have Hc := Lib.hid hc
    have Hq := Lib.hid hq
    clear hc hq
    by_cases hlt : k < l.length
    · obtain ⟨b, off, rfl, hG, hcl⟩ : ∃ b off, ad = some ⟨b, off, none⟩ ∧ _ ∧ _ := H7.out.resolve_left (by omega)
      obtain ⟨x, hx⟩ : ∃ x, x = l[k] := ⟨_, rfl⟩
      have hcx : wr.cell? ⟨b, off + k, none⟩ = some (.int .i64 x) := Hc.out.cell (hcl k (.int .i64 x) (by simp [hlt, hx])) (fun e => e)
      have hbF : ¬ F b := fun e => by have := F1.out b e; have : b < w.heap.size := hG; omega
      have hb1 : (0 : Int) ≤ (k : Int) := by omega
      have hb2 : (k : Int) < l.length := by omega
      have hb3 : (l.length : Int) ≤ 300 := by omega
      have hb4 : (m : Int) ≤ 300 := by omega
      have hb5 : (0 : Int) ≤ (m : Int) := by omega
      have HbF := Lib.hid hbF
      clear hcl hx hG hbF
      go_wp2_with fail
      refine (addQ p _ F x _ Hq.out).mono ?_
      rintro e w4 ⟨rfl, q4, c4⟩
      rw [e0_may]
      have hcx4 := c4.cell hcx HbF.out
      have C4 := Lib.hid c4
      clear c4
      by_cases hx1 : 0 ≤ x ∧ x < N
      · obtain ⟨j, rfl⟩ := Int.eq_ofNat_of_zero_le hx1.1
        have hj : j < N := by omega
        rw [e0_add N m j hj] at q4
        rw [show (decide ((0 : Int) ≤ (j : Int)) && decide ((j : Int) < (N : Int))) = true by simp; omega]
        have Q4 := Lib.hid q4
        have hnj : decide ((j : Int) < n) = true := by have := HN.out; simp; omega
        clear q4 hcx hx1
        go_wp2_with fail
        refine (addQ p _ F j _ Q4.out).mono ?_
        rintro e w5 ⟨rfl, q5, c5⟩
        rw [e1_may N m j hj]
        rw [e1_add N m j hj] at q5
        have hcx5 := c5.cell hcx4 HbF.out
        have C5 := Lib.hid c5
        have Q5 := Lib.hid q5
        clear c5 q5 hcx4
        go_wp2_with fail
        refine (takeYes p _ F _ Q5.out (by rw [e1_cnt N m j hj]; omega) (by show m ≤ 1000000; omega) (by simp [e1]; omega)).mono ?_
        rintro e w6 ⟨rfl, q6, c6⟩
        rw [e1_next N m j hj]
        rw [e1_took N m j hj] at q6
        have hcx6 := c6.cell hcx5 HbF.out
        have C6 := Lib.hid c6
        have Q6 := Lib.hid q6
        clear c6 q6 hcx5
        go_wp2_with fail
        go_roundw
        case rel => exact ⟨k + 1, m + 1, by omega, by omega, by go_num, by go_num, Q6.out, ((Hc.out.then' C4.out (fun b hb e => by have := F1.out b e; omega)).then' C5.out (fun b hb e => by have := F1.out b e; omega)).then' C6.out (fun b hb e => by have := F1.out b e; omega)⟩
        case measure => simp [intOf]; omega
      · have hmay : (e0 N m).may x = false := by rw [e0_may]; simp; omega
        rw [e0_no N m x hmay] at q4
        rw [← e0_may N m x, hmay]
        have Q4 := Lib.hid q4
        have Hmay := Lib.hid hmay
        have Hx1 := Lib.hid hx1
        clear q4 hcx hmay hx1
        by_cases hx0 : 0 ≤ x
        · have hd0 : decide (0 ≤ x) = true := by simpa using hx0
          have hd1 : decide (x < n) = false := by have := Hx1.out; have := HN.out; simp; omega
          go_wp2_with fail
          refine (addQ p _ F x _ Q4.out).mono ?_
          rintro e w5 ⟨rfl, q5, c5⟩
          rw [Hmay.out]
          rw [e0_no N m x Hmay.out] at q5
          have hcx5 := c5.cell hcx4 HbF.out
          have C5 := Lib.hid c5
          have Q5 := Lib.hid q5
          clear c5 q5 hcx4
          go_wp2_with fail
          go_roundw
          case rel => exact ⟨k + 1, m, by omega, by omega, by go_num, rfl, Q5.out, (Hc.out.then' C4.out (fun b hb e => by have := F1.out b e; omega)).then' C5.out (fun b hb e => by have := F1.out b e; omega)⟩
          case measure => simp [intOf]; omega
        · have hd0 : decide (0 ≤ x) = false := by simpa using hx0
          go_wp2_with fail
          refine (addQ p _ F x _ Q4.out).mono ?_
          rintro e w5 ⟨rfl, q5, c5⟩
          rw [Hmay.out]
          rw [e0_no N m x Hmay.out] at q5
          have hcx5 := c5.cell hcx4 HbF.out
          have C5 := Lib.hid c5
          have Q5 := Lib.hid q5
          clear c5 q5 hcx4
          go_wp2_with fail
          go_roundw
          case rel => exact ⟨k + 1, m, by omega, by omega, by go_num, rfl, Q5.out, (Hc.out.then' C4.out (fun b hb e => by have := F1.out b e; omega)).then' C5.out (fun b hb e => by have := F1.out b e; omega)⟩
          case measure => simp [intOf]; omega
    · have hd : decide ((k : Int) < (l.length : Int)) = false := by simp; omega
      have HQ := Lib.hid (takenQ p _ F wr Hq.out)
      have HL := Lib.hid (lenQ p _ F wr Hq.out)
      go_wp2_with fail
      refine HQ.out.mono ?_
      rintro e w4 ⟨rfl, rfl⟩
      rw [show (e0 N m).tk = m by rfl]
      go_wp2_with fail
      refine HL.out.mono ?_
      rintro e w4 ⟨rfl, rfl⟩
      rw [e0_cnt, show ((0 : Nat) : Int) = 0 by rfl]
      go_wp2_with fail
      refine (wakesQ _).mono ?_
      rintro e w5 ⟨rfl, c5⟩
      go_wp2_with fail
      go_ret
      exact ⟨rfl, Hc.out.trans c5⟩

open Go.ChangeShapes Go.WideShapes in
theorem again_reads {H : Type} {enc : TypeId × Value → H} (W : World) (base : Nat) {v0 v1 : Value} {d0 d1 : DataW H} {p0 p1 : List MemPlace}
    (o0 : Value.okWide Try.prog W .any base 3 v0) (_h0 : DataW.Trod enc Try.prog W 0 (fun _ => true) true 3 v0 d0 p0)
    (o1 : Value.okWide Try.prog W .any base 27 v1) (h1 : DataW.Trod enc Try.prog W 0 (fun _ => true) true 27 v1 d1 p1) :
    Calls Try.prog 5 #[v0, v1] W fun e w' => e = .returned (.bool true) ∧ Chg (fun _ => False) W w' := by
  obtain ⟨n, rfl⟩ := okWide_int Try.underlying3 o0
  obtain ⟨l, hr, _⟩ := rd_ints Try.underlying27 Try.underlying3 (by kernel_rfl) o1 h1
  by_cases hb : l.length ≤ 300 ∧ n ≤ 100000
  · exact again_small n v1 l W hr hb.1 hb.2
  · obtain ⟨_, _, ad, cap, rfl, _⟩ := hr
    exact again_big n ad l.length cap W (by omega)
end Go.Proofs.Ytjkcoooijfbfpaa
