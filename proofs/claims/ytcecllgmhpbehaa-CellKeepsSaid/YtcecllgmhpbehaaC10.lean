/- CellKeeps: the walk. -/
import Derived.Test.YtcecllgmhpbehaaC9
import Derived.Deep.RegionHeld3
namespace Go.Proofs.Ytcecllgmhpbehaa
open Go.RowKit

/-- An Act. -/
structure AC where
  d : Int
  base : Int
  n : Int
  p : Cv
  v : Cv
def AC.cells (a : AC) : List Value := [.int .i64 a.d, .int .i64 a.base, .int .i64 a.n, .int .u8 a.p.k, .int .i64 a.p.o, .int .i64 a.p.n, .int .u8 a.v.k, .int .i64 a.v.o, .int .i64 a.v.n]
theorem AC.len (a : AC) : a.cells.length = 9 := rfl

theorem makeAny (p : Nat) (os : List Ob) (lim : Nat) (F : Nat → Prop) (base n : Int) (w : World) (h : HeapS w p os lim F) (hos : os.length < 1000) :
    Calls Try.prog 7 #[.pointer (some ⟨p, 0, none⟩), .int .i64 base, .int .i64 n] w fun e w' => ∃ v os' F', e = .returned v ∧ HeapS w' p os' lim F' ∧ os'.length ≤ os.length + 1 ∧ Chg F w w' ∧ ∀ b, F' b → F b ∨ w.heap.size ≤ b := by
  by_cases hr : room os lim n
  · obtain ⟨m, rfl⟩ := Int.eq_ofNat_of_zero_le (show 0 ≤ n by have := hr.1; omega)
    refine (makeOk p os lim F base m w h hr hos).mono ?_
    rintro e w' ⟨pb, cb, F', rfl, h1, h2, h3⟩
    exact ⟨_, _, _, rfl, h1, by simp, h2, h3⟩
  · refine (makeFull p os lim F base n w h hr).mono ?_
    rintro e w' ⟨rfl, hc⟩
    exact ⟨_, _, F, rfl, h.chg hc (fun _ _ e => e), by omega, hc.mono (fun _ _ e => e.elim), fun b hb => .inl hb⟩

theorem putC_len (os : List Ob) (q v : Cv) : (putC os q v).length = os.length := by unfold putC; split <;> simp

theorem cnt_take (os : List Ob) (o : Nat) (h : o < os.length) : cnt (os.take (o + 1)) = cnt (os.take o) + os[o].vs.length := by
  unfold cnt; rw [List.take_succ_eq_append_getElem h, List.map_append, List.sum_append]; simp
theorem cnt_take_le (os : List Ob) (n : Nat) : cnt (os.take n) ≤ cnt os := by
  unfold cnt
  conv => rhs; rw [← List.take_append_drop n os, List.map_append, List.sum_append]
  omega

theorem HeapS.len64 {w : World} {p : Nat} {os : List Ob} {lim : Nat} {F : Nat → Prop} (h : HeapS w p os lim F) : ∀ o ∈ os, o.vs.length ≤ 64 := by
  obtain ⟨lv, hb, hl, ho, _⟩ := h
  exact fun o hm => (ho o hm).2.2

/-- What the second loop has gathered: n addresses and what they lead to. -/
def L2 (w : World) (os : List Ob) (n : Nat) (av wv : Value) (wr : World) : Prop :=
  ∃ ps : List (Cv × Cv), ps.length = n ∧ (∀ q ∈ ps, getC os q.1 = some q.2) ∧ wr.ownsRow 0 24 3 av n (ps.flatMap fun q => q.1.cells) ∧ wr.ownsRow 0 24 3 wv n (ps.flatMap fun q => q.2.cells) ∧
    (∀ b, av.ownBlock = some b → w.heap.size ≤ b ∧ wv.ownBlock ≠ some b) ∧ (∀ b, wv.ownBlock = some b → w.heap.size ≤ b) ∧ Chg (fun _ => False) w wr

theorem getC_put {os : List Ob} {p q v x : Cv} (h : getC os q = some x) : getC (putC os p v) q = some (if q = p then v else x) := by
  obtain ⟨i, j, o, rfl, hi, hj⟩ := getC_some h
  have hil : i < os.length := (List.getElem?_eq_some_iff.1 hi).1
  have hjl : j < o.vs.length := (List.getElem?_eq_some_iff.1 hj).1
  unfold putC
  split
  · rename_i hs
    obtain ⟨y, hy⟩ := Option.isSome_iff_exists.1 hs
    obtain ⟨i', j', o', rfl, hi', hj'⟩ := getC_some hy
    simp only [getC_at, Int.toNat_natCast, List.getElem?_modify, hi]
    by_cases hii : i' = i
    · subst hii
      simp only [Option.map_some, if_true, Option.bind_some, List.getElem?_set]
      by_cases hjj : j' = j
      · subst hjj; simp [hjl]
      · have : ¬ (j : Int) = j' := by omega
        simp [hjj, hj, this]
    · have : ¬ (i : Int) = i' := by omega
      simp [hii, hj, this]
  · rename_i hs
    have : ¬ (⟨1, i, j⟩ : Cv) = p := by rintro rfl; simp [h] at hs
    rw [if_neg this]; exact h
theorem stC_of {os : List Ob} {q x : Cv} (h : getC os q = some x) : stC os q = 0 := by
  obtain ⟨i, j, o, rfl, _, _⟩ := getC_some h
  simp [stC, h]
theorem stC_zero {os : List Ob} {q : Cv} (h : stC os q = 0) : q.k = 1 := by
  unfold stC at h
  split at h
  · assumption
  · omega

def L1 (w : World) (p : Nat) (wr : World) : Prop := ∃ os F, HeapS wr p os 16384 F ∧ os.length ≤ 12 ∧ Chg (fun _ => False) w wr ∧ ∀ b, F b → w.heap.size ≤ b

set_option maxHeartbeats 2000000 in
theorem keeps_big (n c : Nat) (ad : Option Addr) (p v : Cv) (w : World) (hn : 100 < n) :
    Calls Try.prog 3 #[.slice ad n c, .agg #[.int .u8 p.k, .int .i64 p.o, .int .i64 p.n], .agg #[.int .u8 v.k, .int .i64 v.o, .int .i64 v.n]] w fun e w' => e = .returned (.bool true) ∧ Chg (fun _ => False) w w' := by
  have h1 : decide ((100 : Int) < (n : Int)) = true := by simp; omega
  have hC := Lib.hid (((Chg.refl (fun _ => False) w).alloc (.cells #[.int .u8 p.k, .int .i64 p.o, .int .i64 p.n] 24)).alloc (.cells #[.int .u8 v.k, .int .i64 v.o, .int .i64 v.n] 24))
  go_enter Try.func3, Try.ntmps3
  go_wp2_with fail
  refine (wakesS _).mono ?_
  rintro e w1 ⟨rfl, hc⟩
  go_wp2_with fail
  go_ret
  exact ⟨rfl, hC.out.trans hc⟩

set_option maxHeartbeats 8000000 in
set_option maxRecDepth 100000 in
theorem keeps_small (sl : Value) (l : List AC) (p v : Cv) (w : World) (h : Rd w sl 9 l.length (l.flatMap AC.cells) (fun b => b < w.heap.size)) (hn : l.length ≤ 100) :
    Calls Try.prog 3 #[sl, .agg #[.int .u8 p.k, .int .i64 p.o, .int .i64 p.n], .agg #[.int .u8 v.k, .int .i64 v.o, .int .i64 v.n]] w fun e w' => e = .returned (.bool true) ∧ Chg (fun _ => False) w w' := by
  have hC := Lib.hid (((Chg.refl (fun _ => False) w).alloc (.cells #[.int .u8 p.k, .int .i64 p.o, .int .i64 p.n] 24)).alloc (.cells #[.int .u8 v.k, .int .i64 v.o, .int .i64 v.n] 24))
  obtain ⟨hlen, hmax, ad, cap, rfl, h4, h5, h6, h7⟩ := h
  clear h4 h5 h6 hlen hmax
  have h1 : decide ((100 : Int) < (l.length : Int)) = false := by simp; omega
  have bp := Lib.hid (blk_alloc (blk_alloc_new w (.cells #[.int .u8 p.k, .int .i64 p.o, .int .i64 p.n] 24)) (.cells #[.int .u8 v.k, .int .i64 v.o, .int .i64 v.n] 24))
  have bv0 := blk_alloc_new (w.alloc (.cells #[.int .u8 p.k, .int .i64 p.o, .int .i64 p.n] 24)) (.cells #[.int .u8 v.k, .int .i64 v.o, .int .i64 v.n] 24)
  rw [World.size_alloc] at bv0
  have bv := Lib.hid bv0
  have hs0 := Lib.hid (show ((w.alloc (.cells #[.int .u8 p.k, .int .i64 p.o, .int .i64 p.n] 24)).alloc (.cells #[.int .u8 v.k, .int .i64 v.o, .int .i64 v.n] 24)).heap.size = w.heap.size + 2 by simp)
  clear bv0
  go_enter Try.func3, Try.ntmps3
  go_wp2_with fail
  generalize (w.alloc (.cells #[.int .u8 p.k, .int .i64 p.o, .int .i64 p.n] 24)).alloc (.cells #[.int .u8 v.k, .int .i64 v.o, .int .i64 v.n] 24) = w0 at *
  refine (newMax w0).mono ?_
  rintro e w1 ⟨ph, F0, rfl, hH0, hC0, hF0⟩
  go_wp2_with fail
  go_loopw [8] (fun i wr => ∃ k : Nat, k ≤ l.length ∧ i = .int .i64 k ∧ L1 w0 ph wr) (fun i _ => l.length - (intOf i).toNat)
  case atStart => exact ⟨0, Nat.zero_le _, rfl, [], F0, hH0, by simp, hC0, hF0⟩
  case round =>
    obtain ⟨k, hk, rfl, os, F, hH, hos, hCr, hF⟩ := hrel
    by_cases hlt : k < l.length
    · obtain ⟨b, off, rfl, hG, hcl⟩ : ∃ b off, ad = some ⟨b, off, none⟩ ∧ _ ∧ _ := h7.resolve_left (by omega)
      obtain ⟨x, hx⟩ : ∃ x, x = l[k] := ⟨_, rfl⟩
      have hg := fun j (hj : j < 9) => flat_get AC.cells AC.len l k hlt j hj
      rw [← hx] at hg
      have hcc := hC.out.trans hCr
      have a0 : wr.cell? ⟨b, off + k * 9, none⟩ = some (.int .i64 x.d) := hcc.cell (hcl _ _ (hg 0 (by decide))) (fun e => e)
      have a1 : wr.cell? ⟨b, off + k * 9 + 1, none⟩ = some (.int .i64 x.base) := hcc.cell (hcl _ _ (hg 1 (by decide))) (fun e => e)
      have a2 : wr.cell? ⟨b, off + k * 9 + 2, none⟩ = some (.int .i64 x.n) := hcc.cell (hcl _ _ (hg 2 (by decide))) (fun e => e)
      have a3 : wr.cell? ⟨b, off + k * 9 + 3, none⟩ = some (.int .u8 x.p.k) := hcc.cell (hcl _ _ (hg 3 (by decide))) (fun e => e)
      have a4 : wr.cell? ⟨b, off + k * 9 + 4, none⟩ = some (.int .i64 x.p.o) := hcc.cell (hcl _ _ (hg 4 (by decide))) (fun e => e)
      have a5 : wr.cell? ⟨b, off + k * 9 + 5, none⟩ = some (.int .i64 x.p.n) := hcc.cell (hcl _ _ (hg 5 (by decide))) (fun e => e)
      have a6 : wr.cell? ⟨b, off + k * 9 + 6, none⟩ = some (.int .u8 x.v.k) := hcc.cell (hcl _ _ (hg 6 (by decide))) (fun e => e)
      have a7 : wr.cell? ⟨b, off + k * 9 + 7, none⟩ = some (.int .i64 x.v.o) := hcc.cell (hcl _ _ (hg 7 (by decide))) (fun e => e)
      have a8 : wr.cell? ⟨b, off + k * 9 + 8, none⟩ = some (.int .i64 x.v.n) := hcc.cell (hcl _ _ (hg 8 (by decide))) (fun e => e)
      have hb1 : (0 : Int) ≤ (k : Int) := by omega
      have hb2 : (k : Int) < l.length := by omega
      have hbF : ¬ F b := fun e => by have := hF b e; have := hs0.out; have : b < w.heap.size := hG; omega
      have HH := Lib.hid hH
      have HF := Lib.hid hF
      have HCr := Lib.hid hCr
      clear hcl h7 hg hcc hx hH hF hCr hG
      by_cases hd0 : x.d = 0
      · have hd0' : (x.d == 0) = true := by simpa using hd0
        go_wp2_with fail
        refine (objsS ph os 16384 F _ HH.out).mono ?_
        rintro e w2 ⟨rfl, rfl⟩
        by_cases ho : os.length < 12
        · have ho' : decide ((os.length : Int) < 12) = true := by simp; omega
          go_wp2_with fail
          go_region_held3 (fun w' => w'.cell? ⟨b, off + k * 9 + 1, none⟩ = some (.int .i64 x.base) ∧ w'.cell? ⟨b, off + k * 9 + 2, none⟩ = some (.int .i64 x.n)) (first | exact ⟨a1', a2'⟩ | go_keep)
            (first
              | (go_at_call 7; refine (makeAny ph os 16384 F x.base x.n _ (HH.out.chg (chg_drewN (fun _ => False) _ 1) (fun _ _ e => e)) (by omega)).mono ?_; rintro e w3 ⟨vv, os', F', rfl, hH3, hos3, hC3, hF3⟩; have a1' := hC3.cell (show wr.drew.cell? _ = _ from a1) hbF; have a2' := hC3.cell (show wr.drew.cell? _ = _ from a2) hbF))
          go_wp2_with fail
          go_roundw
          case rel =>
            refine ⟨k + 1, by omega, by go_num, os', F', hH3, by omega, (HCr.out.drewN 1).then' hC3 (fun c hc hf => by have := HF.out c hf; omega), fun c hc => ?_⟩
            rcases hF3 c hc with h | h
            · exact HF.out c h
            · exact Nat.le_trans HCr.out.size h
          case measure => simp [intOf]; omega
        · have ho' : decide ((os.length : Int) < 12) = false := by simp; omega
          go_wp2_with fail
          go_roundw
          case rel => exact ⟨k + 1, by omega, by go_num, os, F, HH.out, hos, HCr.out, HF.out⟩
          case measure => simp [intOf]; omega
      · have hd0' : (x.d == 0) = false := by simpa using hd0
        by_cases hd2 : x.d = 2
        · have hd2' : (x.d == 2) = true := by simpa using hd2
          go_wp2_with fail
          go_region_held3 (fun w' => w'.cell? ⟨b, off + k * 9 + 3, none⟩ = some (.int .u8 x.p.k) ∧ w'.cell? ⟨b, off + k * 9 + 4, none⟩ = some (.int .i64 x.p.o) ∧ w'.cell? ⟨b, off + k * 9 + 5, none⟩ = some (.int .i64 x.p.n) ∧ w'.cell? ⟨b, off + k * 9 + 6, none⟩ = some (.int .u8 x.v.k) ∧ w'.cell? ⟨b, off + k * 9 + 7, none⟩ = some (.int .i64 x.v.o) ∧ w'.cell? ⟨b, off + k * 9 + 8, none⟩ = some (.int .i64 x.v.n))
            (first | exact ⟨a3', a4', a5', a6', a7', a8'⟩ | go_keep)
            (first
              | (go_at_call 8; refine (storeS ph os 16384 F x.p x.v _ (HH.out.chg (chg_drewN (fun _ => False) _ 1) (fun _ _ e => e))).mono ?_; rintro e w3 ⟨rfl, hH3, hC3⟩; have a3' := hC3.cell (show wr.drew.cell? _ = _ from a3) hbF; have a4' := hC3.cell (show wr.drew.cell? _ = _ from a4) hbF; have a5' := hC3.cell (show wr.drew.cell? _ = _ from a5) hbF; have a6' := hC3.cell (show wr.drew.cell? _ = _ from a6) hbF; have a7' := hC3.cell (show wr.drew.cell? _ = _ from a7) hbF; have a8' := hC3.cell (show wr.drew.cell? _ = _ from a8) hbF))
          go_wp2_with fail
          go_roundw
          case rel => exact ⟨k + 1, by omega, by go_num, putC os x.p x.v, F, hH3, by rw [putC_len]; exact hos, (HCr.out.drewN 1).then' hC3 (fun c hc hf => by have := HF.out c hf; omega), HF.out⟩
          case measure => simp [intOf]; omega
        · have hd2' : (x.d == 2) = false := by simpa using hd2
          go_wp2_with fail
          go_roundw
          case rel => exact ⟨k + 1, by omega, by go_num, os, F, HH.out, hos, HCr.out, HF.out⟩
          case measure => simp [intOf]; omega
    · clear h7
      have HH := Lib.hid hH
      have HF := Lib.hid hF
      have HCr := Lib.hid hCr
      clear hH hF hCr hH0 hC0 hF0
      have h64 := Lib.hid (HH.out.len64)
      go_wp2_with fail
      obtain ⟨wb, rfl⟩ : ∃ w4 : World, w4 = wr := ⟨_, rfl⟩
      go_loopw [9, 10, 11] (fun av wv i wr => ∃ o : Nat, o ≤ os.length ∧ i = .int .i64 o ∧ L2 wb os (cnt (os.take o)) av wv wr) (fun _ _ i _ => os.length - (intOf i).toNat)
      case atStart => exact ⟨0, Nat.zero_le _, rfl, [], by simp [cnt], by simp, by simpa [cnt] using World.ownsRow_nil _ _ _ _, by simpa [cnt] using World.ownsRow_nil _ _ _ _, by simp [Value.ownBlock], by simp [Value.ownBlock], Chg.refl _ _⟩
      case round =>
        obtain ⟨o, ho, rfl, hL2⟩ := hrel
        have HL2 := Lib.hid hL2
        clear hL2
        have hHr := Lib.hid (show HeapS wr ph os 16384 F by obtain ⟨_, _, _, _, _, _, _, hc⟩ := HL2.out; exact HH.out.chg hc (fun _ _ e => e))
        by_cases hlo : o < os.length
        · have hlo' : decide ((o : Int) < (os.length : Int)) = true := by simp; omega
          go_wp2_with fail
          refine (objsS ph os 16384 F _ hHr.out).mono ?_
          rintro e w2 ⟨rfl, rfl⟩
          go_wp2_with fail
          clear hHr
          have hvl : os[o].vs.length ≤ 64 := h64.out _ (List.getElem_mem hlo)
          have hcn : cnt (os.take o) + os[o].vs.length ≤ 16384 := by
            have e1 := cnt_take os o hlo
            have e2 := cnt_take_le os (o + 1)
            have e3 : cnt os ≤ 16384 := by obtain ⟨_, _, _, _, _, _, _, _, e4, e5, _⟩ := HH.out; omega
            omega
          obtain ⟨wo, rfl⟩ : ∃ w4 : World, w4 = wr := ⟨_, rfl⟩
          go_loopw [9, 10, 12] (fun av wv i wr => ∃ k : Nat, k ≤ 64 ∧ i = .int .i64 k ∧ L2 wb os (cnt (os.take o) + min k os[o].vs.length) av wv wr) (fun _ _ i _ => 64 - (intOf i).toNat)
          case atStart => exact ⟨0, Nat.zero_le _, rfl, by simpa using HL2.out⟩
          case round =>
            obtain ⟨k, hk, rfl, ps, hps, hget, hav, hwv, hab, hwb, hCr2⟩ := hrel
            by_cases hk64 : k < 64
            · have hkk : decide ((k : Int) < 64) = true := by simp; omega
              have hHw := Lib.hid (HH.out.chg (hCr2.alloc (.cells #[.int .u8 1, .int .i64 o, .int .i64 k] 24)) (fun _ _ e => e))
              have bq := blk_alloc_new wr (.cells #[.int .u8 1, .int .i64 o, .int .i64 k] 24)
              have bq0 := cell_of_blk (i := 0) bq rfl
              have bq1 := cell_of_blk (i := 1) bq rfl
              have bq2 := cell_of_blk (i := 2) bq rfl
              have Hbq := Lib.hid bq
              have Hav := Lib.hid hav
              have Hwv := Lib.hid hwv
              have Hab := Lib.hid hab
              have Hwb := Lib.hid hwb
              have HCr2 := Lib.hid hCr2
              have Hget := Lib.hid hget
              have Hps := Lib.hid hps
              clear bq hav hwv hab hwb hCr2 hget hps
              go_wp2_with fail
              refine (loadS ph os 16384 F ⟨1, o, k⟩ _ hHw.out).mono ?_
              by_cases hkv : k < os[o].vs.length
              · have hg : getC os ⟨1, o, k⟩ = some os[o].vs[k] := by rw [getC_at, List.getElem?_eq_getElem hlo]; simp [hkv]
                rw [show stC os ⟨1, o, k⟩ = 0 by simp [stC, hg], hg, Option.getD_some]
                obtain ⟨x, hx⟩ : ∃ x, x = os[o].vs[k] := ⟨_, rfl⟩
                rw [← hx] at hg ⊢
                have Hg := Lib.hid hg
                clear hx hg
                rw [show x.enc = .agg #[.int .u8 x.k, .int .i64 x.o, .int .i64 x.n] from rfl]
                rintro e w2 ⟨rfl, c2⟩
                have hmin : min k os[o].vs.length = k := by omega
                have hmin' : min (k + 1) os[o].vs.length = k + 1 := by omega
                have hc2 : Chg (fun _ => False) wr (w2.alloc (.cells #[.int .u8 x.k, .int .i64 x.o, .int .i64 x.n] 24)) := ((chg_alloc _ wr (.cells #[.int .u8 1, .int .i64 o, .int .i64 k] 24)).trans c2).alloc _
                have hs2 : wr.heap.size + 1 ≤ w2.heap.size := by have := c2.size; simpa using this
                have qb := (c2.alloc (.cells #[.int .u8 x.k, .int .i64 x.o, .int .i64 x.n] 24)).blk Hbq.out (fun e => e)
                have xb := blk_alloc_new w2 (.cells #[.int .u8 x.k, .int .i64 x.o, .int .i64 x.n] 24)
                have q0 := cell_of_blk (i := 0) qb rfl
                have q1 := cell_of_blk (i := 1) qb rfl
                have q2 := cell_of_blk (i := 2) qb rfl
                have hav2 := fun o' => owns_chg Hav.out (hc2.alloc o') (fun _ _ e => e)
                have Hav2 := Lib.hid hav2
                have Hxb := Lib.hid xb
                have Hc2 := Lib.hid hc2
                have Hlw := Lib.hid (Hwv.out.lt)
                have Hla := Lib.hid (Hav.out.lt)
                clear bq0 bq1 bq2 hav2 qb xb hc2 c2
                rw [hmin] at Hav2 Hwv Hps
                go_wp2_with (at_builtin; refine wp_append_at rfl _ _ 35 rfl 24 _ 3 24 Try.underlying35 info24 rfl (by decide) _ (cnt (os.take o) + k) _ rfl (Hav2.out _) (w2.heap.size + 1) 1 1 #[.int .u8 1, .int .i64 o, .int .i64 k] 24 (0, 0) rfl (by simpa using blk_alloc_new (w2.alloc (.cells #[.int .u8 x.k, .int .i64 x.o, .int .i64 x.n] 24)) (.cells #[.int .u8 1, .int .i64 o, .int .i64 k] 24)) (Cv.cells ⟨1, o, k⟩) rfl rfl (one_cv _) (by decide) ?_ ?_ ?_)
                · unfold maxLen; omega
                · omega
                intro g cap3 w3 hown3 hC3 hg3
                have xb3 := hC3.blk (blk_alloc Hxb.out _) (fun e => by have := (Hla.out _ e).2; omega)
                have x0 := cell_of_blk (i := 0) xb3 rfl
                have x1 := cell_of_blk (i := 1) xb3 rfl
                have x2 := cell_of_blk (i := 2) xb3 rfl
                have hc3 := (Hc2.out.mono (T := fun k => _) (fun _ _ e => e.elim)).trans ((chg_alloc _ _ (.cells #[.int .u8 1, .int .i64 o, .int .i64 k] 24)).trans hC3)
                have hwv3 := fun o' => owns_chg Hwv.out (hc3.alloc o') (fun b hb e => (Hab.out _ e).2 hb)
                have Hwv3 := Lib.hid hwv3
                have Hown3 := Lib.hid hown3
                have HC3 := Lib.hid hc3
                have Hg3 := Lib.hid hg3
                clear q0 q1 q2 xb3 hc3 hwv3 hown3 hC3 hg3
                go_wp2_with (at_builtin; refine wp_append_at rfl _ _ 35 rfl 24 _ 3 24 Try.underlying35 info24 rfl (by decide) _ (cnt (os.take o) + k) _ rfl (Hwv3.out _) w3.heap.size 1 1 #[.int .u8 x.k, .int .i64 x.o, .int .i64 x.n] 24 (0, 0) rfl (blk_alloc_new _ _) (Cv.cells x) rfl rfl (one_cv _) (by decide) ?_ ?_ ?_)
                · unfold maxLen; omega
                · omega
                intro g' cap4 w4 hown4 hC4 hg4
                go_wp2_with fail
                go_roundw
                case rel =>
                  have hc2s := Hc2.out.size
                  have hav4 : w4.ownsRow 0 24 3 (.slice (some ⟨g, 0, none⟩) (cnt (os.take o) + k + 1) cap3) (cnt (os.take o) + k + 1) _ := owns_chg Hown3.out ((chg_alloc _ w3 _).trans hC4) (fun b hb e => by
                    simp only [Value.ownBlock, Option.some.injEq] at hb
                    subst hb
                    rcases Hg3.out with h | h
                    · exact (Hab.out _ h).2 e
                    · have := (Hlw.out _ e).2; omega)
                  have hs3 := HC3.out.size
                  have hsb := HCr2.out.size
                  refine ⟨k + 1, by omega, by go_num, ?_⟩
                  rw [hmin', ← Nat.add_assoc]
                  refine ⟨ps ++ [(⟨1, o, k⟩, x)], by simp [Hps.out], ?_, by simpa using hav4, by simpa using hown4, ?_, ?_, ?_⟩
                  · intro q hq
                    rcases List.mem_append.1 hq with h | h
                    · exact Hget.out q h
                    · simp only [List.mem_singleton] at h; subst h; exact Hg.out
                  · intro b hb
                    simp only [Value.ownBlock, Option.some.injEq] at hb ⊢
                    subst hb
                    rcases Hg3.out with h | h
                    · refine ⟨(Hab.out _ h).1, fun e => ?_⟩
                      have e := Option.some.inj e
                      subst e
                      rcases hg4 with h4 | h4
                      · exact (Hab.out _ h).2 h4
                      · have := (Hla.out _ h).2; omega
                    · refine ⟨by omega, fun e => ?_⟩
                      have e := Option.some.inj e
                      subst e
                      rcases hg4 with h4 | h4
                      · have := (Hlw.out _ h4).2; omega
                      · have := (Hown3.out.lt g' (by simp [Value.ownBlock])).2; omega
                  · intro b hb
                    simp only [Value.ownBlock, Option.some.injEq] at hb
                    subst hb
                    rcases hg4 with h4 | h4
                    · exact Hwb.out _ h4
                    · omega
                  · exact ((HCr2.out.then' HC3.out (fun c hc e => by have := (Hab.out _ e).1; omega)).alloc _).then' hC4 (fun c hc e => by have := Hwb.out _ e; omega)
                case measure => simp [intOf]; omega
              · have hg : getC os ⟨1, o, k⟩ = none := by rw [getC_at, List.getElem?_eq_getElem hlo]; simp; omega
                rw [show stC os ⟨1, o, k⟩ = 3 by simp [stC, hg], hg, Option.getD_none]
                rintro e w2 ⟨rfl, c2⟩
                rw [show Cv.zero.enc = .agg #[.int .u8 0, .int .i64 0, .int .i64 0] from rfl]
                clear bq0 bq1 bq2
                go_wp2_with fail
                go_roundw
                case rel =>
                  have hc2 : Chg (fun _ => False) wr (w2.alloc (.cells #[.int .u8 0, .int .i64 0, .int .i64 0] 24)) := ((chg_alloc _ wr _).trans c2).alloc _
                  refine ⟨k + 1, by omega, by go_num, ps, by rw [Hps.out]; omega, Hget.out, ?_, ?_, Hab.out, Hwb.out, HCr2.out.trans hc2⟩
                  · rw [show min (k + 1) os[o].vs.length = min k os[o].vs.length by omega]; exact owns_chg Hav.out hc2 (fun _ _ e => e)
                  · rw [show min (k + 1) os[o].vs.length = min k os[o].vs.length by omega]; exact owns_chg Hwv.out hc2 (fun _ _ e => e)
                case measure => simp [intOf]; omega
            · have hkk : decide ((k : Int) < 64) = false := by simp; omega
              go_wp2_with fail
              go_roundw
              case rel =>
                refine ⟨o + 1, by omega, by go_num, ?_⟩
                rw [cnt_take os o hlo, show os[o].vs.length = min k os[o].vs.length by omega]
                exact ⟨ps, hps, hget, hav, hwv, hab, hwb, hCr2⟩
              case measure => simp [intOf]; omega
        · obtain rfl : o = os.length := by omega
          have hlo' : decide ((os.length : Int) < (os.length : Int)) = false := by simp
          go_wp2_with fail
          refine (objsS ph os 16384 F _ hHr.out).mono ?_
          rintro e w2 ⟨rfl, rfl⟩
          obtain ⟨ps, hps, hget, hav, hwv, hab, hwb, hCw⟩ := HL2.out
          rw [List.take_length] at hps hav hwv
          obtain ⟨ad9, c9, rfl⟩ := slice_own hav
          obtain ⟨ad10, c10, rfl⟩ := slice_own hwv
          have hcw := Lib.hid (HCr.out.trans hCw)
          have Hps := Lib.hid hps
          have Hget := Lib.hid hget
          have Hav := Lib.hid hav
          have Hwv := Lib.hid hwv
          have Hab := Lib.hid hab
          have Hwb := Lib.hid hwb
          have HCw := Lib.hid hCw
          have HFlt := Lib.hid (HH.out.lt)
          have bp1 := hcw.out.blk bp.out (fun e => e)
          have bv1 := hcw.out.blk bv.out (fun e => e)
          have p0 := cell_of_blk (i := 0) bp1 rfl
          have p1 := cell_of_blk (i := 1) bp1 rfl
          have p2 := cell_of_blk (i := 2) bp1 rfl
          have v0 := cell_of_blk (i := 0) bv1 rfl
          have v1 := cell_of_blk (i := 1) bv1 rfl
          have v2 := cell_of_blk (i := 2) bv1 rfl
          have Hbp := Lib.hid bp1
          have Hbv := Lib.hid bv1
          clear hps hget hav hwv hab hwb hCw bp1 bv1 HL2 h64
          go_wp2_with fail
          refine (cellsS ph os 16384 F _ hHr.out).mono ?_
          rintro e w2 ⟨rfl, rfl⟩
          go_wp2_with fail
          refine (storeS ph os 16384 F p v _ hHr.out).mono ?_
          rintro e w3 ⟨rfl, hH3, hC3⟩
          have nF : ∀ b, b < w.heap.size + 2 → ¬ F b := fun b hb hf => by have := HF.out b hf; have := hs0.out; omega
          have bp3 := hC3.blk Hbp.out (nF _ (by omega))
          have bv3 := hC3.blk Hbv.out (nF _ (by omega))
          have Ra := (Rd.of_owns Hav.out).chg hC3 (fun b hb hf => by have := (Hab.out b hb).1; have := HFlt.out b hf; omega)
          have Rw := (Rd.of_owns Hwv.out).chg hC3 (fun b hb hf => by have := Hwb.out b hb; have := HFlt.out b hf; omega)
          have HRa := Lib.hid Ra
          have HRw := Lib.hid Rw
          have Hbp3 := Lib.hid bp3
          have Hbv3 := Lib.hid bv3
          have HH3 := Lib.hid hH3
          have HC3 := Lib.hid hC3
          clear bp3 bv3 Ra Rw hH3 hC3 nF p0 p1 p2 v0 v1 v2 hlo' hlo ho
          go_wp2_with fail
          go_loopw [17] (fun i wr => ∃ k : Nat, k ≤ cnt os ∧ i = .int .i64 k ∧ Chg (fun _ => False) w3 wr) (fun i _ => cnt os - (intOf i).toNat)
          case atStart => exact ⟨0, Nat.zero_le _, rfl, Chg.refl _ _⟩
          case round =>
            obtain ⟨k, hk, rfl, hCk⟩ := hrel
            by_cases hkc : k < cnt os
            · have hkc' : decide ((k : Int) < (cnt os : Int)) = true := by simp; omega
              obtain ⟨_, _, _, _, hsl, _, _, _, hr⟩ := HRa.out
              obtain ⟨rfl, _, rfl⟩ := Value.slice.inj hsl
              obtain ⟨_, _, _, _, hsl', _, _, _, hr'⟩ := HRw.out
              obtain ⟨rfl, _, rfl⟩ := Value.slice.inj hsl'
              obtain ⟨b, off, rfl, _, hcl⟩ := hr.resolve_left (by omega)
              obtain ⟨b', off', rfl, _, hcl'⟩ := hr'.resolve_left (by omega)
              have hkp : k < ps.length := by have := Hps.out; omega
              have hg := fun j (hj : j < 3) => flat_get (fun q : Cv × Cv => q.1.cells) (fun _ => rfl) ps k hkp j hj
              have hg' := fun j (hj : j < 3) => flat_get (fun q : Cv × Cv => q.2.cells) (fun _ => rfl) ps k hkp j hj
              have hgt := Hget.out _ (List.getElem_mem hkp)
              obtain ⟨⟨q, x⟩, hqx⟩ : ∃ qx, qx = ps[k] := ⟨_, rfl⟩
              rw [← hqx] at hg hg' hgt
              have a0 : wr.cell? ⟨b, off + k * 3, none⟩ = some (.int .u8 q.k) := hCk.cell (hcl _ _ (hg 0 (by decide))) (fun e => e)
              have a1 : wr.cell? ⟨b, off + k * 3 + 1, none⟩ = some (.int .i64 q.o) := hCk.cell (hcl _ _ (hg 1 (by decide))) (fun e => e)
              have a2 : wr.cell? ⟨b, off + k * 3 + 2, none⟩ = some (.int .i64 q.n) := hCk.cell (hcl _ _ (hg 2 (by decide))) (fun e => e)
              have b0 : wr.cell? ⟨b', off' + k * 3, none⟩ = some (.int .u8 x.k) := hCk.cell (hcl' _ _ (hg' 0 (by decide))) (fun e => e)
              have b1 : wr.cell? ⟨b', off' + k * 3 + 1, none⟩ = some (.int .i64 x.o) := hCk.cell (hcl' _ _ (hg' 1 (by decide))) (fun e => e)
              have b2 : wr.cell? ⟨b', off' + k * 3 + 2, none⟩ = some (.int .i64 x.n) := hCk.cell (hcl' _ _ (hg' 2 (by decide))) (fun e => e)
              have hb1 : (0 : Int) ≤ (k : Int) := by omega
              have hb2 : (k : Int) < cnt os := by omega
              have hb3 : (k : Int) < 16384 := by obtain ⟨_, _, _, _, _, _, _, _, e4, e5, _⟩ := HH.out; omega
              clear hcl hcl' hg hg' hqx hr hr' hsl hsl'
              have Hgt := Lib.hid hgt
              have HCk := Lib.hid hCk
              have HHk := Lib.hid (HH3.out.chg hCk (fun _ _ e => e))
              clear hgt hCk
              have heq := eq24
              have hgp := getC_put (v := v) (p := p) Hgt.out
              obtain ⟨qi, qj, _, hq, _, _⟩ := getC_some Hgt.out
              obtain ⟨y, hy⟩ : ∃ y, y = if q = p then v else x := ⟨_, rfl⟩
              rw [← hy] at hgp
              have Hgp := Lib.hid hgp
              have Hy := Lib.hid hy
              clear hgp hy
              subst hq
              go_wp2_with fail
              refine (loadS ph (putC os p v) 16384 F ⟨1, qi, qj⟩ _ HHk.out).mono ?_
              rw [stC_of Hgp.out, Hgp.out, Option.getD_some, show y.enc = .agg #[.int .u8 y.k, .int .i64 y.o, .int .i64 y.n] from rfl]
              rintro e w5 ⟨rfl, c5⟩
              have a0' : w5.cell? ⟨b, off + k * 3, none⟩ = some (.int .u8 1) := c5.cell a0 (fun e => e)
              have a1' : w5.cell? ⟨b, off + k * 3 + 1, none⟩ = some (.int .i64 qi) := c5.cell a1 (fun e => e)
              have a2' : w5.cell? ⟨b, off + k * 3 + 2, none⟩ = some (.int .i64 qj) := c5.cell a2 (fun e => e)
              have b0' := c5.cell b0 (fun e => e)
              have b1' := c5.cell b1 (fun e => e)
              have b2' := c5.cell b2 (fun e => e)
              have c35 := HCk.out.trans c5
              have bp5 := c35.blk Hbp3.out (fun e => e)
              have bv5 := c35.blk Hbv3.out (fun e => e)
              have p0 := cell_of_blk (i := 0) bp5 rfl
              have p1 := cell_of_blk (i := 1) bp5 rfl
              have p2 := cell_of_blk (i := 2) bp5 rfl
              have v0 := cell_of_blk (i := 0) bv5 rfl
              have v1 := cell_of_blk (i := 1) bv5 rfl
              have v2 := cell_of_blk (i := 2) bv5 rfl
              have hsz : w.heap.size + 2 ≤ w5.heap.size := by have := c35.size; have := HC3.out.size; have := hcw.out.size; have := hs0.out; omega
              have lb : b < w5.heap.size := World.block_lt_of_cell? _ _ a0'
              have lb' : b' < w5.heap.size := World.block_lt_of_cell? _ _ b0'
              have lp : w.heap.size < w5.heap.size := by omega
              have lv : w.heap.size + 1 < w5.heap.size := by omega
              have Hc35 := Lib.hid c35
              clear bp5 bv5 c35 c5 a0 a1 a2 b0 b1 b2
              by_cases hst : stC os p = 0
              · have hst' : (stC os p == 0) = true := by simpa using hst
                have Hst := Lib.hid hst
                clear hst
                by_cases hqp : (⟨1, qi, qj⟩ : Cv) = p
                · subst hqp
                  have hyv : y = v := by rw [Hy.out]; simp
                  subst hyv
                  clear Hst
                  go_wp2_with fail
                  go_quiet (fail)
                  go_wp2_with fail
                  go_roundw
                  case rel => exact ⟨k + 1, by omega, by go_num, (((((Hc35.out.alloc _).alloc _).drewN _).setCell (fun h => by have h : w5.heap.size + 1 < w3.heap.size := h; have := Hc35.out.size; omega) _).setCell (fun h => by have h : w5.heap.size + 1 < w3.heap.size := h; have := Hc35.out.size; omega) _).setCell (fun h => by have h : w5.heap.size + 1 < w3.heap.size := h; have := Hc35.out.size; omega) _⟩
                  case measure => simp [intOf]; omega
                · have hyx : y = x := by rw [Hy.out]; simp [hqp]
                  subst hyx
                  by_cases hqo : (qi : Int) = p.o
                  · have hqn : ¬ (qj : Int) = p.n := fun e => hqp (by rw [hqo, e, ← stC_zero Hst.out])
                    have hqo' : ((qi : Int) == p.o) = true := by simpa using hqo
                    have hqn' : ((qj : Int) == p.n) = false := by simpa using hqn
                    clear hqp
                    go_wp2_with fail
                    go_quiet (fail)
                    go_wp2_with fail
                    go_roundw
                    case rel => exact ⟨k + 1, by omega, by go_num, ((Hc35.out.alloc _).alloc _).drewN _⟩
                    case measure => simp [intOf]; omega
                  · have hqo' : ((qi : Int) == p.o) = false := by simpa using hqo
                    clear hqp
                    go_wp2_with fail
                    go_quiet (fail)
                    go_wp2_with fail
                    go_roundw
                    case rel => exact ⟨k + 1, by omega, by go_num, ((Hc35.out.alloc _).alloc _).drewN _⟩
                    case measure => simp [intOf]; omega
              · have hst' : (stC os p == 0) = false := by simpa using hst
                have hqp : ¬ (⟨1, qi, qj⟩ : Cv) = p := by rintro rfl; exact hst (stC_of Hgt.out)
                have hyx : y = x := by rw [Hy.out]; simp [hqp]
                subst hyx
                have Hst := Lib.hid hst
                clear hst hqp
                go_wp2_with fail
                go_quiet (fail)
                go_wp2_with fail
                go_roundw
                case rel => exact ⟨k + 1, by omega, by go_num, ((Hc35.out.alloc _).alloc _).drewN _⟩
                case measure => simp [intOf]; omega
            · have hkc' : decide ((k : Int) < (cnt os : Int)) = false := by simp; omega
              go_wp2_with fail
              refine (wakesS _).mono ?_
              rintro e w5 ⟨rfl, hc5⟩
              go_wp2_with fail
              go_ret
              exact ⟨rfl, (((hC.out.trans hcw.out).then' HC3.out (fun b hb hf => by have := HF.out b hf; have := hs0.out; omega)).trans hCk).trans hc5⟩
end Go.Proofs.Ytcecllgmhpbehaa
