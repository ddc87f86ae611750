/- QueuePicks: the walk. -/
import Derived.Test.YtjkcoooijfbfpaaQ11
namespace Go.Proofs.Ytjkcoooijfbfpaa
open Go.RowKit Go.Shelf

def Inv (ps l : List Int) (N : Nat) (s : Qs) (t : Nat) : Prop :=
  s.ps = ps.drop t ∧ s.tk = t ∧ s.cnt + t ≤ l.length ∧ s.bs.length = N ∧ ∀ x, s.has x = true → x ∈ l
theorem inv_took {ps l : List Int} {N : Nat} {s : Qs} {t : Nat} (h : Inv ps l N s t) (hc : 0 < s.cnt) : Inv ps l N s.took (t + 1) := by
  obtain ⟨h1, h2, h3, h4, h5⟩ := h
  refine ⟨?_, by show s.tk + 1 = t + 1; omega, by have := took_cnt s hc; omega, by show (s.bs.set s.next false).length = N; rw [List.length_set, h4], fun x hx => h5 x (took_has s x hx)⟩
  show s.ps.tail = ps.drop (t + 1)
  rw [h1, List.tail_drop]

/-- What the inner loop holds. -/
def Wt (wb wr : World) (wv : Value) (xs : List Int) : Prop :=
  Rd wr wv 1 xs.length (xs.map (.int .i64)) (fun b => wb.heap.size ≤ b) ∧ Plain wv ∧ Chg (fun _ => False) wb wr

set_option maxHeartbeats 8000000 in
set_option maxRecDepth 100000 in
theorem picks_small (n : Int) (pv sl : Value) (ps l : List Int) (w : World) (hp : Rd w pv 1 ps.length (ps.map (.int .i64)) (fun b => b < w.heap.size)) (h : Rd w sl 1 l.length (l.map (.int .i64)) (fun b => b < w.heap.size))
    (hpl : ps.length ≤ 300) (hl : l.length ≤ 300) (hn : n ≤ 100000) :
    Calls Try.prog 4 #[.int .i64 n, pv, sl] w fun e w' => e = .returned (.bool true) ∧ Chg (fun _ => False) w w' := by
  have hnew := Lib.hid (newQ n pv ps _ w hp hn)
  obtain ⟨_, _, pad, pcap, rfl, _, _, _, p7⟩ := hp
  obtain ⟨_, _, ad, cap, rfl, _, _, _, h7⟩ := h
  have H7 := Lib.hid h7
  have P7 := Lib.hid p7
  clear h7 p7
  have k1 : decide ((300 : Int) < (ps.length : Int)) = false := by simp; omega
  have k2 : decide ((300 : Int) < (l.length : Int)) = false := by simp; omega
  have k3 : decide (100000 < n) = false := by simp; omega
  obtain ⟨s0, hs0⟩ : ∃ s0, s0 = Qs.new n ps := ⟨_, rfl⟩
  have g1 : s0.cnt = 0 := by rw [hs0]; exact Qs.new_cnt n ps
  have g2 : ∀ x, s0.has x = false := by
    intro x
    rw [hs0]
    unfold Qs.has Qs.new
    simp only [List.getElem?_replicate]
    split <;> simp
  have g3 : s0.ps = ps := by rw [hs0]; show ps.take 65536 = ps; rw [List.take_of_length_le (by omega)]
  have g4 : s0.tk = 0 := by rw [hs0]; rfl
  have g5 : s0.bs.length = n.toNat := by rw [hs0]; simp [Qs.new]
  have HS := Lib.hid (addAll_spec s0 g1 g2)
  have Hg := Lib.hid (And.intro g3 (And.intro g4 g5))
  have Hs0 := Lib.hid hs0
  clear g1 g2 g3 g4 g5 hs0
  go_enter Try.func4, Try.ntmps4
  go_wp2_with fail
  refine hnew.out.mono ?_
  rintro e w1 ⟨p, F, rfl, q1, c1, f1⟩
  rw [← Hs0.out] at q1
  have Q1 := Lib.hid q1
  have C1 := Lib.hid c1
  have HF := Lib.hid f1
  clear q1 c1 f1 hnew
  go_wp2_with fail
  go_loopw [8] (fun iv wr => ∃ k : Nat, k ≤ l.length ∧ iv = .int .i64 k ∧ QAt wr p (addAll s0 (l.take k)) F ∧ Chg (fun _ => False) w wr) (fun i _ => l.length - (intOf i).toNat)
  case atStart => exact ⟨0, Nat.zero_le _, rfl, Q1.out, C1.out⟩
  case round =>
    obtain ⟨k, hk, rfl, hq, hc⟩ := hrel
    have Hq := Lib.hid hq
    have Hc := Lib.hid hc
    clear hq hc
    by_cases hlt : k < l.length
    · obtain ⟨b, off, rfl, hG, hcl⟩ : ∃ b off, ad = some ⟨b, off, none⟩ ∧ _ ∧ _ := H7.out.resolve_left (by omega)
      obtain ⟨x, hx⟩ : ∃ x, x = l[k] := ⟨_, rfl⟩
      have hcx : wr.cell? ⟨b, off + k, none⟩ = some (.int .i64 x) := Hc.out.cell (hcl k (.int .i64 x) (by simp [hlt, hx])) (fun e => e)
      have Hx := Lib.hid hx
      have hb1 : (0 : Int) ≤ (k : Int) := by omega
      have hb2 : (k : Int) < l.length := by omega
      have hb3 : (l.length : Int) ≤ 300 := by omega
      clear hcl hx hG
      go_wp2_with fail
      refine (addQ p _ F x _ Hq.out).mono ?_
      rintro e w4 ⟨rfl, q4, c4⟩
      have Q4 := Lib.hid q4
      have C4 := Lib.hid c4
      clear q4 c4
      go_wp2_with fail
      go_roundw
      case rel => exact ⟨k + 1, by omega, by go_num, by rw [List.take_succ_eq_append_getElem hlt, addAll_snoc, ← Hx.out]; exact Q4.out, Hc.out.then' C4.out (fun b hb e => by have := HF.out b e; omega)⟩
      case measure => simp [intOf]; omega
    · have hd : decide ((k : Int) < (l.length : Int)) = false := by simp; omega
      have hq := Hq.out
      rw [List.take_of_length_le (by omega)] at hq
      have Hinv0 : Hid (Inv ps l n.toNat (addAll s0 l) 0) := Lib.hid (by
        obtain ⟨e1, e2, e3, e4, e5⟩ := HS.out l
        obtain ⟨d1, d2, d3⟩ := Hg.out
        exact ⟨by rw [e1, d1]; rfl, by rw [e2, d2], by omega, by rw [e3, d3], e5⟩)
      have HQ := Lib.hid hq
      clear hq Hq
      go_wp2_with fail
      go_loopw [9] (fun tv wr => ∃ (t : Nat) (s : Qs), t ≤ l.length ∧ tv = .int .i64 t ∧ QAt wr p s F ∧ Inv ps l n.toNat s t ∧ Chg (fun _ => False) w wr) (fun i _ => l.length + 1 - (intOf i).toNat)
      case atStart => exact ⟨0, _, Nat.zero_le _, rfl, HQ.out, Hinv0.out, Hc.out⟩
      case round =>
        obtain ⟨t, s, ht, rfl, hq, hinv, hc⟩ := hrel
        have Hq := Lib.hid hq
        have Hinv := Lib.hid hinv
        have Hcw0 := Lib.hid hc
        have HT1 : Hid (s.tk ≤ 1000000) := Lib.hid (by obtain ⟨_, h2, h3, _⟩ := hinv; omega)
        have HT2 : Hid (s.bs.length ≤ 1000000) := Lib.hid (by obtain ⟨_, _, _, h4, _⟩ := hinv; omega)
        have HT3 : Hid (s.took.tk = t + 1) := Lib.hid (by obtain ⟨_, h2, _⟩ := hinv; show s.tk + 1 = t + 1; omega)
        clear hq hinv hc
        by_cases hcn : 0 < s.cnt
        · have hd0 : decide ((0 : Int) < (s.cnt : Int)) = true := by simp; omega
          have hd0' : decide (0 < s.cnt) = true := by simp; omega
          have Hcn := Lib.hid hcn
          have HL := Lib.hid (lenQ p s F wr Hq.out)
          go_wp2_with fail
          refine HL.out.mono ?_
          rintro e w2 ⟨rfl, rfl⟩
          go_wp2_with fail
          obtain ⟨wb, rfl⟩ : ∃ w4 : World, w4 = wr := ⟨_, rfl⟩
          go_loopw [10, 11] (fun wv iv wr => ∃ k : Nat, k ≤ l.length ∧ iv = .int .i64 k ∧ Wt wb wr wv (gath s (l.take k))) (fun _ i _ => l.length - (intOf i).toNat)
          case atStart => exact ⟨0, Nat.zero_le _, rfl, ⟨rfl, Nat.zero_le _, none, 0, rfl, Nat.le_refl _, Nat.zero_le _, fun _ => ⟨rfl, rfl⟩, .inl rfl⟩, .inl rfl, Chg.refl _ _⟩
          case round =>
            obtain ⟨k, hk, rfl, hW⟩ := hrel
            have HW := Lib.hid hW
            have Hqr := Lib.hid (Hq.out.chg hW.2.2 (fun _ _ e => e))
            have Hcw := Lib.hid (Hcw0.out.trans hW.2.2)
            clear hW
            by_cases hlt : k < l.length
            · obtain ⟨b, off, rfl, hG, hcl⟩ : ∃ b off, ad = some ⟨b, off, none⟩ ∧ _ ∧ _ := H7.out.resolve_left (by omega)
              obtain ⟨x, hx⟩ : ∃ x, x = l[k] := ⟨_, rfl⟩
              have hcx : wr.cell? ⟨b, off + k, none⟩ = some (.int .i64 x) := Hcw.out.cell (hcl k (.int .i64 x) (by simp [hlt, hx])) (fun e => e)
              have Hx := Lib.hid hx
              have hb1 : (0 : Int) ≤ (k : Int) := by omega
              have hb2 : (k : Int) < l.length := by omega
              have hb3 : (l.length : Int) ≤ 300 := by omega
              have Hgl := Lib.hid (gath_len s (l.take k))
              have Hsn : Hid (gath s (l.take (k + 1)) = if s.has x then insS x (gath s (l.take k)) else gath s (l.take k)) := Lib.hid (by rw [List.take_succ_eq_append_getElem hlt, gath_snoc, ← hx])
              clear hcl hx hG
              go_wp2_with fail
              refine (waitsQ p s F x _ Hqr.out).mono ?_
              rintro e w4 ⟨rfl, rfl⟩
              by_cases hh : s.has x = true
              · rw [hh]
                rw [if_pos hh] at Hsn
                have HA := Lib.hid (addR _ _ _ x wr HW.out.1 (by have := Hgl.out; simp at this; omega) HW.out.2.1)
                clear hh
                go_wp2_with fail
                refine HA.out.mono ?_
                rintro e w5 ⟨v', rfl, r5, c5, p5⟩
                have R5 := Lib.hid r5
                have C5 := Lib.hid c5
                have P5 := Lib.hid p5
                clear r5 c5 p5
                go_wp2_with fail
                go_roundw
                case rel =>
                  refine ⟨k + 1, by omega, by go_num, ?_⟩
                  rw [Hsn.out]
                  exact ⟨R5.out.mono (fun b hb => hb.elim id (fun hb => Nat.le_trans HW.out.2.2.size hb)), P5.out, HW.out.2.2.trans C5.out⟩
                case measure => simp [intOf]; omega
              · have hh : s.has x = false := by simpa using hh
                rw [hh]
                rw [hh, if_neg (by simp)] at Hsn
                clear hh
                go_wp2_with fail
                go_roundw
                case rel => exact ⟨k + 1, by omega, by go_num, by rw [Hsn.out]; exact HW.out⟩
                case measure => simp [intOf]; omega
            · have hd : decide ((k : Int) < (l.length : Int)) = false := by simp; omega
              have hga : gath s (l.take k) = ws s.bs := by rw [List.take_of_length_le (by omega)]; exact gath_all s l Hinv.out.2.2.2.2
              rw [hga] at HW
              clear hga
              obtain ⟨b, off, c, rfl, hwc⟩ : ∃ b off c, u10 = .slice (some ⟨b, off, none⟩) s.cnt c ∧ ∀ j x, (ws s.bs)[j]? = some x → wr.cell? ⟨b, off + j, none⟩ = some (.int .i64 x) := by
                obtain ⟨hr, _, _⟩ := HW.out
                rw [ws_len] at hr
                obtain ⟨_, _, ad', c', rfl, _, _, _, h7⟩ := hr
                obtain ⟨b, off, rfl, _, hcl⟩ := h7.resolve_left (by omega)
                exact ⟨b, off, c', rfl, fun j x hx => hcl j _ (by rw [List.getElem?_map, hx]; rfl)⟩
              have hnx := ws_next s hcn
              have hlen : (ws s.bs).length = s.cnt := ws_len s
              obtain ⟨y0, hy0⟩ : ∃ y0, (ws s.bs)[0]? = some y0 := ⟨_, List.getElem?_eq_getElem (by omega)⟩
              have hw0 : wr.cell? ⟨b, off, none⟩ = some (.int .i64 y0) := hwc 0 y0 hy0
              have hd1 : decide ((l.length : Int) ≤ (t : Int)) = false := by have := Hinv.out.2.2.1; simp; omega
              have hd2 : decide (l.length ≤ t) = false := by have := Hinv.out.2.2.1; simp; omega
              have hb1 : (0 : Int) ≤ (t : Int) := by omega
              have hb2 : (t : Int) ≤ 300 := by omega
              have hb3 : (0 : Int) < (s.cnt : Int) := by omega
              have HL2 := Lib.hid (lenQ p s F wr Hqr.out)
              have Hnx := Lib.hid hnx
              have Hy0 := Lib.hid hy0
              have Hwc := Lib.hid hwc
              have Hlen := Lib.hid hlen
              clear hnx hy0 hwc hlen hcn
              by_cases htp : t < ps.length
              · obtain ⟨q, hqq⟩ : ∃ q, q = ps[t] := ⟨_, rfl⟩
                obtain ⟨pb, poff, rfl, hG, hcl⟩ : ∃ b off, pad = some ⟨b, off, none⟩ ∧ _ ∧ _ := P7.out.resolve_left (by omega)
                have hcq : wr.cell? ⟨pb, poff + t, none⟩ = some (.int .i64 q) := Hcw.out.cell (hcl t (.int .i64 q) (by simp [htp, hqq])) (fun e => e)
                have hhd : s.ps.headD 0 = q := by rw [Hinv.out.1, hqq, List.drop_eq_getElem_cons htp]; rfl
                have hb4 : (t : Int) < (ps.length : Int) := by omega
                have Hhd := Lib.hid hhd
                clear hcl hG hqq hhd
                by_cases hq0 : 0 ≤ q
                · by_cases hq1 : q < s.cnt
                  · obtain ⟨j, rfl⟩ := Int.eq_ofNat_of_zero_le hq0
                    have hpi : s.pick = j := by unfold Qs.pick; rw [Hhd.out, if_pos ⟨by omega, hq1⟩]; rfl
                    have hwj : wr.cell? ⟨b, off + j, none⟩ = some (.int .i64 s.next) := Hwc.out j _ (by rw [← hpi]; exact Hnx.out)
                    have hb5 : (0 : Int) ≤ (j : Int) := by omega
                    clear hq0 hpi
                    go_wp2_with fail
                    refine HL2.out.mono ?_
                    rintro e w5 ⟨rfl, rfl⟩
                    go_wp2_with fail
                    refine (takeYes p s F _ Hqr.out Hcn.out HT1.out HT2.out).mono ?_
                    rintro e w6 ⟨rfl, q6, c6⟩
                    have Q6 := Lib.hid q6
                    have C6 := Lib.hid c6
                    have HT6 := Lib.hid (takenQ p _ F w6 q6)
                    clear q6 c6
                    go_wp2_with fail
                    refine HT6.out.mono ?_
                    rintro e w7 ⟨rfl, rfl⟩
                    rw [HT3.out]
                    go_wp2_with fail
                    go_roundw
                    case rel => exact ⟨t + 1, s.took, by obtain ⟨_, _, h3, _⟩ := Hinv.out; have := Hcn.out; omega, by go_num, Q6.out, inv_took Hinv.out Hcn.out, (Hcw.out.then' C6.out (fun b hb e => by have := HF.out b e; omega))⟩
                    case measure => simp [intOf]; omega
                  · have hq1' : decide (q < (s.cnt : Int)) = false := by simpa using hq1
                    have hpi : s.pick = 0 := by unfold Qs.pick; rw [Hhd.out, if_neg (by omega)]
                    obtain rfl : y0 = s.next := by have := Hnx.out; rw [hpi, Hy0.out] at this; exact Option.some.inj this
                    have hq0' : decide (0 ≤ q) = true := by simpa using hq0
                    clear hq0 hq1 hpi
                    go_wp2_with fail
                    refine HL2.out.mono ?_
                    rintro e w5 ⟨rfl, rfl⟩
                    go_wp2_with fail
                    refine (takeYes p s F _ Hqr.out Hcn.out HT1.out HT2.out).mono ?_
                    rintro e w6 ⟨rfl, q6, c6⟩
                    have Q6 := Lib.hid q6
                    have C6 := Lib.hid c6
                    have HT6 := Lib.hid (takenQ p _ F w6 q6)
                    clear q6 c6
                    go_wp2_with fail
                    refine HT6.out.mono ?_
                    rintro e w7 ⟨rfl, rfl⟩
                    rw [HT3.out]
                    go_wp2_with fail
                    go_roundw
                    case rel => exact ⟨t + 1, s.took, by obtain ⟨_, _, h3, _⟩ := Hinv.out; have := Hcn.out; omega, by go_num, Q6.out, inv_took Hinv.out Hcn.out, (Hcw.out.then' C6.out (fun b hb e => by have := HF.out b e; omega))⟩
                    case measure => simp [intOf]; omega
                · have hq0' : decide (0 ≤ q) = false := by simpa using hq0
                  have hpi : s.pick = 0 := by unfold Qs.pick; rw [Hhd.out, if_neg (by omega)]
                  obtain rfl : y0 = s.next := by have := Hnx.out; rw [hpi, Hy0.out] at this; exact Option.some.inj this
                  clear hq0 hpi
                  go_wp2_with fail
                  refine HL2.out.mono ?_
                  rintro e w5 ⟨rfl, rfl⟩
                  go_wp2_with fail
                  refine (takeYes p s F _ Hqr.out Hcn.out HT1.out HT2.out).mono ?_
                  rintro e w6 ⟨rfl, q6, c6⟩
                  have Q6 := Lib.hid q6
                  have C6 := Lib.hid c6
                  have HT6 := Lib.hid (takenQ p _ F w6 q6)
                  clear q6 c6
                  go_wp2_with fail
                  refine HT6.out.mono ?_
                  rintro e w7 ⟨rfl, rfl⟩
                  rw [HT3.out]
                  go_wp2_with fail
                  go_roundw
                  case rel => exact ⟨t + 1, s.took, by obtain ⟨_, _, h3, _⟩ := Hinv.out; have := Hcn.out; omega, by go_num, Q6.out, inv_took Hinv.out Hcn.out, (Hcw.out.then' C6.out (fun b hb e => by have := HF.out b e; omega))⟩
                  case measure => simp [intOf]; omega
              · have htp' : decide ((t : Int) < (ps.length : Int)) = false := by simp; omega
                have htp2 : decide (t < ps.length) = false := by simp; omega
                have hpi : s.pick = 0 := by
                  unfold Qs.pick
                  rw [Hinv.out.1, List.drop_of_length_le (by omega)]
                  split <;> rfl
                obtain rfl : y0 = s.next := by have := Hnx.out; rw [hpi, Hy0.out] at this; exact Option.some.inj this
                clear htp hpi
                go_wp2_with fail
                refine HL2.out.mono ?_
                rintro e w5 ⟨rfl, rfl⟩
                go_wp2_with fail
                refine (takeYes p s F _ Hqr.out Hcn.out HT1.out HT2.out).mono ?_
                rintro e w6 ⟨rfl, q6, c6⟩
                have Q6 := Lib.hid q6
                have C6 := Lib.hid c6
                have HT6 := Lib.hid (takenQ p _ F w6 q6)
                clear q6 c6
                go_wp2_with fail
                refine HT6.out.mono ?_
                rintro e w7 ⟨rfl, rfl⟩
                rw [HT3.out]
                go_wp2_with fail
                go_roundw
                case rel => exact ⟨t + 1, s.took, by obtain ⟨_, _, h3, _⟩ := Hinv.out; have := Hcn.out; omega, by go_num, Q6.out, inv_took Hinv.out Hcn.out, (Hcw.out.then' C6.out (fun b hb e => by have := HF.out b e; omega))⟩
                case measure => simp [intOf]; omega
        · have hd0 : decide ((0 : Int) < (s.cnt : Int)) = false := by simp; omega
          have hd0' : decide (0 < s.cnt) = false := by simp; omega
          have HL := Lib.hid (lenQ p s F wr Hq.out)
          go_wp2_with fail
          refine HL.out.mono ?_
          rintro e w2 ⟨rfl, rfl⟩
          go_wp2_with fail
          refine (wakesQ _).mono ?_
          rintro e w3 ⟨rfl, c3⟩
          go_wp2_with fail
          go_ret
          exact ⟨rfl, Hcw0.out.trans c3⟩
end Go.Proofs.Ytjkcoooijfbfpaa
