/- QueuePicks: the readings. -/
import Derived.Test.YtjkcoooijfbfpaaQ12
namespace Go.Proofs.Ytjkcoooijfbfpaa
open Go.RowKit Go.Shelf

set_option maxHeartbeats 1000000 in
theorem picks_big (n : Int) (ad ad' : Option Addr) (m c m' c' : Nat) (w : World) (h : 300 < m ∨ 300 < m' ∨ 100000 < n) :
    Calls Try.prog 4 #[.int .i64 n, .slice ad m c, .slice ad' m' c'] w fun e w' => e = .returned (.bool true) ∧ Chg (fun _ => False) w w' := by
  by_cases h1 : 300 < m
  · have k1 : decide ((300 : Int) < (m : Int)) = true := by simp; omega
    go_enter Try.func4, Try.ntmps4
    go_wp2_with fail
    refine (wakesQ _).mono ?_
    rintro e w1 ⟨rfl, hc⟩
    go_wp2_with fail
    go_ret
    exact ⟨rfl, hc⟩
  · have k1 : decide ((300 : Int) < (m : Int)) = false := by simp; omega
    by_cases h2 : 300 < m'
    · have k2 : decide ((300 : Int) < (m' : Int)) = true := by simp; omega
      go_enter Try.func4, Try.ntmps4
      go_wp2_with fail
      refine (wakesQ _).mono ?_
      rintro e w1 ⟨rfl, hc⟩
      go_wp2_with fail
      go_ret
      exact ⟨rfl, hc⟩
    · have k2 : decide ((300 : Int) < (m' : Int)) = false := by simp; omega
      have k3 : decide (100000 < n) = true := by simp; omega
      go_enter Try.func4, Try.ntmps4
      go_wp2_with fail
      refine (wakesQ _).mono ?_
      rintro e w1 ⟨rfl, hc⟩
      go_wp2_with fail
      go_ret
      exact ⟨rfl, hc⟩

open Go.ChangeShapes Go.WideShapes in
theorem picks_reads {H : Type} {enc : TypeId × Value → H} (W : World) (base : Nat) {v0 v1 v2 : Value} {d0 d1 d2 : DataW H} {p0 p1 p2 : List MemPlace}
    (o0 : Value.okWide Try.prog W .any base 3 v0) (_h0 : DataW.Trod enc Try.prog W 0 (fun _ => true) true 3 v0 d0 p0)
    (o1 : Value.okWide Try.prog W .any base 27 v1) (h1 : DataW.Trod enc Try.prog W 0 (fun _ => true) true 27 v1 d1 p1)
    (o2 : Value.okWide Try.prog W .any base 27 v2) (h2 : DataW.Trod enc Try.prog W 0 (fun _ => true) true 27 v2 d2 p2) :
    Calls Try.prog 4 #[v0, v1, v2] W fun e w' => e = .returned (.bool true) ∧ Chg (fun _ => False) W w' := by
  obtain ⟨n, rfl⟩ := okWide_int Try.underlying3 o0
  obtain ⟨ps, hp, _⟩ := rd_ints Try.underlying27 Try.underlying3 (by kernel_rfl) o1 h1
  obtain ⟨l, hr, _⟩ := rd_ints Try.underlying27 Try.underlying3 (by kernel_rfl) o2 h2
  by_cases hb : ps.length ≤ 300 ∧ l.length ≤ 300 ∧ n ≤ 100000
  · exact picks_small n v1 v2 ps l W hp hr hb.1 hb.2.1 hb.2.2
  · have hor : 300 < ps.length ∨ 300 < l.length ∨ 100000 < n := by omega
    obtain ⟨_, _, ad, cap, rfl, _⟩ := hp
    obtain ⟨_, _, ad', cap', rfl, _⟩ := hr
    exact picks_big n ad ad' ps.length cap l.length cap' W hor
end Go.Proofs.Ytjkcoooijfbfpaa
