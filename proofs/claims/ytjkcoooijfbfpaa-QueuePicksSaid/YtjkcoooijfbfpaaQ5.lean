/- Take, whole. -/
import Derived.Test.YtjkcoooijfbfpaaQ4
namespace Go.Proofs.Ytjkcoooijfbfpaa
open Go.RowKit Go.Shelf
attribute [local go_sem] Oper.semAt_some

set_option maxHeartbeats 2000000 in
set_option maxRecDepth 100000 in
theorem takeYes (p : Nat) (s : Qs) (F : Nat → Prop) (w : World) (h : QAt w p s F) (hcnt : 0 < s.cnt) (htk : s.tk ≤ 1000000) (hlen : s.bs.length ≤ 1000000) : Calls Try.prog 6 #[.pointer (some ⟨p, 0, none⟩)] w (TakePost w p s F) := by
  have T := Lib.hid (tk_of w p s F h)
  have hcl : s.cnt ≤ s.bs.length := List.count_le_length
  refine callsIn_wide (n := 3) |>.1 ?_
  refine callsIn_of_wp_marks Try.func6 rfl trivial ?_ rfl
  refine wpIn_wide.2 ?_
  simp only [Try.ntmps6, List.size_toArray, List.length_cons, List.length_nil, Nat.reduceAdd, Nat.reduceSub, Array.replicate_succ, Array.replicate_zero, List.push_toArray, List.append_toArray, List.nil_append, List.cons_append]
  have hL := Lib.hid (lenQ p s F _ T.out.q)
  go_upto_if 9 with (go_at_call 9; refine hL.out.mono ?_; rintro e w' ⟨rfl, rfl⟩)
  have Hw := Lib.hid h
  clear h
  generalize ((w.alloc (.cells #[.pointer (some ⟨p, 0, none⟩)] 22)).alloc (.cells #[.int .i64 0] 3)).alloc (.cells #[.bool false] 4) = w0 at *
  have x0 := cell_of_blk (i := 0) T.out.box rfl
  have hsz := T.out.size
  have lx : w.heap.size < w0.heap.size := by omega
  clear hsz
  obtain ⟨wv, pv, G, hb, hr, hp, d1, d2, d3, d4, hF⟩ := T.out.q
  have b1 : w0.cell? ⟨p, 1, none⟩ = some (.int .i64 s.cnt) := cell_of_blk (i := 1) hb rfl
  have f2 := frozen_of_blk (i := 2) hb
  have hpl : p < w0.heap.size := blk_lt hb
  have hcn : ((s.cnt : Int) == 0) = false := by simp; omega
  have Hb := Lib.hid hb
  have Hp := Lib.hid hp
  have Hr := Lib.hid hr
  have D1 := Lib.hid d1
  have D2 := Lib.hid d2
  have D3 := Lib.hid d3
  have D4 := Lib.hid d4
  have HF := Lib.hid hF
  have M0 := Lib.hid (mid_of T.out)
  clear hb hp hr d1 d2 d3 d4 hF
  obtain ⟨tb, htb⟩ : ∃ tb, tb = w0.heap.size := ⟨_, rfl⟩
  have hC1 := Lib.hid (chg_alloc (fun _ => False) w0 (.cells #[.int .i64 0] 3))
  have b2 : w0.cell? ⟨p, 2, none⟩ = some pv := cell_of_blk (i := 2) Hb.out rfl
  obtain ⟨_, hmax, pad, pcap, rfl, hpc, hpm, hpn, h7⟩ := Hp.out
  have h7 := Lib.hid h7
  have hpn := Lib.hid hpn
  unfold maxLen at hmax hpm
  have Htb := Lib.hid htb
  go_upto_if 15 with (fail)
  rw [← htb]
  clear htb
  go_cut [] from 9 (fun wx => Mid w wx p tb s s.ps.tail F (s.ps.headD 0))
  case first =>
    have M0 := M0
    rw [← Htb.out] at M0
    have t4 := blk_alloc_new w0 (.cells #[.int .i64 0] 3)
    have s1 : (w0.alloc (.cells #[.int .i64 0] 3)).heap.size = w0.heap.size + 1 := by simp
    rw [← Htb.out] at t4
    obtain hps | ⟨pk, rest, hps⟩ : s.ps = [] ∨ ∃ pk rest, s.ps = pk :: rest := by cases s.ps <;> simp
    · have h00 : s.ps.length = 0 := by rw [hps]; rfl
      have b2 := b2
      rw [h00] at b2 ⊢
      have M : Hid (Mid w (w0.alloc (.cells #[.int .i64 0] 3)) p tb s s.ps.tail F (s.ps.headD 0)) := Lib.hid (by have := M0.out; rw [hps] at this ⊢; exact this)
      clear hps t4 s1 h00
      go_wp2_with fail
      go_meet
      case rel => exact M.out
    · have hrl : s.ps.length = rest.length + 1 := by rw [hps]; rfl
      have hcl2 := (h7.out.resolve_left (by rw [hrl]; omega))
      obtain ⟨pb, poff, rfl, hG, hcl2⟩ := hcl2
      have hce := hcl2 0 (.int .i64 pk) (by rw [hps]; rfl)
      rw [Nat.add_zero] at hce
      have hpbl : pb < w0.heap.size := D4.out _ hG
      have hc0 : decide ((0 : Int) < (s.ps.length : Int)) = true := by rw [hrl]; simp
      have Htl := Lib.hid (Rd.tail (w := w0) (b := pb) (off := poff) (c := pcap) (x := .int .i64 pk) (xs := rest.map (.int .i64)) (n := rest.length) (G := G) (by have := Hp.out; rw [hrl, hps] at this; exact this))
      have Hmc : Hid (∀ sv, Rd (w0.alloc (.cells #[.int .i64 0] 3)) sv 1 rest.length (rest.map (.int .i64)) G → Mid w ((((w0.alloc (.cells #[.int .i64 0] 3)).setCell ⟨tb, 0, none⟩ (.int .i64 pk)).setCell ⟨p, 2, none⟩ sv).drew) p tb s s.ps.tail F (s.ps.headD 0)) :=
        Lib.hid fun sv hsv => by
          have M1 := M0.out
          rw [hps] at M1 ⊢
          exact M1.cut wv _ G (hC1.out.blk Hb.out (fun e => e)) (owns_chg Hr.out hC1.out (fun _ _ e => e)) hsv D1.out D2.out D3.out (fun b hb => by have := D4.out b hb; omega) HF.out
      rw [hrl] at hpc hmax b2
      have npt : ¬ p = tb := by have := Htb.out; omega
      have nx : ¬ w.heap.size = tb := by have := Htb.out; omega
      have Hps := Lib.hid hps
      have Hrl := Lib.hid hrl
      clear hps hcl2 t4
      generalize w0.alloc (.cells #[.int .i64 0] 3) = w1 at *
      have x0 := hC1.out.cell x0 (fun e => e)
      have b2 := hC1.out.cell b2 (fun e => e)
      have hce := hC1.out.cell hce (fun e => e)
      have t40 := cell_of_blk (i := 0) M0.out.t4 rfl
      have t41 := frozen_of_blk (i := 0) M0.out.t4
      have f2 := (hC1.out.frozen (a := ⟨p, 2, none⟩) hpl (fun e => e)).trans f2
      by_cases hcap : pcap = 1
      · subst hcap
        have hr0 : rest.length = 0 := by omega
        have M : Hid (Mid w (((w1.setCell ⟨tb, 0, none⟩ (.int .i64 pk)).setCell ⟨p, 2, none⟩ (.slice (some ⟨pb, poff, none⟩) 0 0)).drew) p tb s s.ps.tail F (s.ps.headD 0)) :=
          Lib.hid (by have := Hmc.out _ (Htl.out.chg hC1.out (fun _ _ e => e)); rw [if_pos rfl, hr0] at this; exact this)
        rw [hr0] at hrl
        clear hr0
        go_wp2_with fail
        go_region
        go_wp2_with fail
        go_meet
        case rel => exact M.out
      · have hcap' : ((pcap : Int) == 1) = false := by simp; omega
        have M : Hid (Mid w (((w1.setCell ⟨tb, 0, none⟩ (.int .i64 pk)).setCell ⟨p, 2, none⟩ (.slice (some ⟨pb, poff + 1, none⟩) rest.length (pcap - 1))).drew) p tb s s.ps.tail F (s.ps.headD 0)) :=
          Lib.hid (by have := Hmc.out _ (Htl.out.chg hC1.out (fun _ _ e => e)); rw [if_neg hcap] at this; exact this)
        go_wp2_with fail
        go_region
        go_wp2_with fail
        go_meet
        case rel => exact M.out
  case rest =>
    have hM := Lib.hid hcut
    clear hcut b1 f2 b2 x0 h7 hpn hpc hmax hpm hcn M0 hC1
    obtain ⟨pk, hpk⟩ : ∃ pk, pk = s.ps.headD 0 := ⟨_, rfl⟩
    rw [← hpk] at hM
    have Hpk := Lib.hid hpk
    clear hpk
    have m0 := cell_of_blk (i := 0) hM.out.box rfl
    have m4 := cell_of_blk (i := 0) hM.out.t4 rfl
    have m1 : wc.cell? ⟨p, 1, none⟩ = some (.int .i64 s.cnt) := by obtain ⟨_, _, _, hb', _⟩ := hM.out.q; exact cell_of_blk (i := 1) hb' rfl
    go_upto_region 6 with (fail)
    go_cut [39] from 9 (fun s39 wx => s39 = .bool (decide (pk < 0) || decide ((s.cnt : Int) ≤ pk)) ∧ Mid w wx p tb s s.ps.tail F pk)
    case first =>
      by_cases hpA : pk < 0
      · have k1 : decide (pk < 0) = true := by simpa using hpA
        have K1 := Lib.hid k1
        go_quiet (fail)
        go_wp2_with fail
        go_meet
        case rel => exact ⟨by rw [K1.out, Bool.true_or], hM.out.drewN _⟩
      · have k1 : decide (pk < 0) = false := by simpa using hpA
        have K1 := Lib.hid k1
        go_quiet (fail)
        go_wp2_with fail
        go_meet
        case rel => exact ⟨by rw [K1.out, Bool.false_or], hM.out.drewN _⟩
    case rest =>
      obtain ⟨rfl, hcut⟩ := hcut
      have hM := Lib.hid hcut
      clear hcut m0 m4 m1
      go_upto_if 39 with (fail)
      go_cut [] from 9 (fun wx => Mid w wx p tb s s.ps.tail F (s.pick : Nat))
      case first =>
        by_cases hpA : pk < 0 ∨ (s.cnt : Int) ≤ pk
        · have k1 : (decide (pk < 0) || decide ((s.cnt : Int) ≤ pk)) = true := by simpa using hpA
          have hpi : s.pick = 0 := by rw [Qs.pick, ← Hpk.out, if_neg (by omega)]
          have m4 := cell_of_blk (i := 0) hM.out.t4 rfl
          have m4f := frozen_of_blk (i := 0) hM.out.t4
          have Hpi := Lib.hid hpi
          clear hpi hpA
          rw [k1]
          go_wp2_with fail
          go_meet
          case rel => rw [Hpi.out]; exact hM.out.put 0
        · have k1 : (decide (pk < 0) || decide ((s.cnt : Int) ≤ pk)) = false := by simp; omega
          have hpi : s.pick = pk.toNat := by rw [Qs.pick, ← Hpk.out, if_pos (by omega)]
          have Hpi := Lib.hid hpi
          have HpA := Lib.hid hpA
          clear hpi hpA
          rw [k1]
          go_wp2_with fail
          go_meet
          case rel =>
            rw [Hpi.out, show ((pk.toNat : Nat) : Int) = pk by have := HpA.out; omega]
            exact hM.out
      case rest =>
        go_step
        exact takeLoop p tb s F w wc hcut hcnt htk hlen hcl _ _ _ _ _ _ _ _ _ _ _ _ _ _ _ _ _ _ _ _ _ _ _ _ _ _ _ _ _ _ _ _ _ _ _ _ _ _ _ _ _ _ _ _ _ _ _ _ _ _ _ _ _ _ _ _ _ _ _
end Go.Proofs.Ytjkcoooijfbfpaa
