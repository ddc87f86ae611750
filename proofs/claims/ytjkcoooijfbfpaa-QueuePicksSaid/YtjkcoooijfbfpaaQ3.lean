/- The iterator over who waits; Take. -/
import Derived.Test.YtjkcoooijfbfpaaQ2
import Derived.RegionTactic
import Derived.ChangeAlike
import Derived.BigRegion
import Derived.RangeFuncNested
import Derived.RangeFuncBound
import Derived.RangeFuncCalls
import Derived.RangeFuncLeaves
import Derived.Shelf.Abstract
import Derived.Shelf.RegionOpen
import Derived.OwnWalkIn
import Derived.TacticsInMore
import Derived.LoopNIn
import Derived.LoopIn
namespace Go.Proofs.Ytjkcoooijfbfpaa
open Go.RowKit Go.Shelf
attribute [local go_sem] Oper.semAt_some

/-- Who waits among the first j, each behind its number among these. -/
def prs (bs : List Bool) : Nat → List (Nat × Nat)
  | 0 => []
  | j + 1 => if bs[j]? = some true then prs bs j ++ [((prs bs j).length, j)] else prs bs j
theorem prs_len (bs : List Bool) (j : Nat) (h : j ≤ bs.length) : (prs bs j).length = (bs.take j).count true := by
  induction j with
  | zero => simp [prs]
  | succ j ih =>
    have := ih (by omega)
    rw [List.take_succ_eq_append_getElem (by omega), List.count_append, prs]
    by_cases hb : bs[j] = true
    · simp [List.getElem?_eq_getElem (show j < bs.length by omega), hb, this]
    · simp [List.getElem?_eq_getElem (show j < bs.length by omega), hb, this]
theorem prs_all (bs : List Bool) : (prs bs bs.length).length = bs.count true := by rw [prs_len _ _ (Nat.le_refl _), List.take_length]
theorem prs_le (bs : List Bool) (j : Nat) : (prs bs j).length ≤ j := by
  induction j with
  | zero => simp [prs]
  | succ j ih =>
    rw [prs]
    split
    · simp; omega
    · omega
theorem prs_mono (bs : List Bool) {i j : Nat} (h : i ≤ j) : prs bs i <+: prs bs j := by
  induction h with
  | refl => exact List.prefix_rfl
  | step _ ih =>
    refine ih.trans ?_
    rw [prs]; split
    · exact List.prefix_append _ _
    · exact List.prefix_rfl
theorem prs_get (bs : List Bool) (j k : Nat) (x : Nat × Nat) (h : (prs bs j)[k]? = some x) : x.1 = k ∧ x.2 < j ∧ bs[x.2]? = some true ∧ prs bs x.2 = (prs bs j).take k := by
  induction j with
  | zero => simp [prs] at h
  | succ j ih =>
    rw [prs] at h ⊢
    split at h
    · rename_i hb
      rw [if_pos hb]
      by_cases hk : k < (prs bs j).length
      · rw [List.getElem?_append_left hk] at h
        obtain ⟨h1, h2, h3, h4⟩ := ih h
        exact ⟨h1, by omega, h3, by rw [h4, List.take_append_of_le_length (by omega)]⟩
      · have : k < (prs bs j ++ [((prs bs j).length, j)]).length := (List.getElem?_eq_some_iff.1 h).1
        have hke : k = (prs bs j).length := by simp at this; omega
        subst hke
        simp at h
        subst h
        exact ⟨rfl, by simp, hb, by simp⟩
    · rename_i hb
      rw [if_neg hb]
      obtain ⟨h1, h2, h3, h4⟩ := ih h
      exact ⟨h1, by omega, h3, h4⟩

theorem prs_snoc (bs : List Bool) (j : Nat) (h : bs[j]? = some true) : prs bs (j + 1) = prs bs j ++ [((prs bs j).length, j)] := by rw [prs, if_pos h]
theorem prs_skip (bs : List Bool) (j : Nat) (h : bs[j]? = some false) : prs bs (j + 1) = prs bs j := by rw [prs, if_neg (by rw [h]; decide)]

abbrev encQ (f : Nat → Nat) (x : Nat × Nat) : Array Value := #[.int .i64 (x.1 : Int), .int .i64 (f x.2 : Int)]

set_option maxRecDepth 100000 in
set_option maxHeartbeats 2000000 in
theorem all1_in (f : Nat → Nat) (F : Fence) (n : Nat) (h17 : F.fn 17) (hro : F.round = none) (hn : 1 ≤ n) (l Bq n₀ p : Nat) (bs : List Bool) (hf : ∀ j, bs[j]? = some true → f j = j) (wv : Value) (J Jx : List (Nat × Nat) → World → Prop)
    (hY : ∀ pre x W, J pre W → pre.length < (prs bs bs.length).length → YieldAt F (n - 1) Try.prog l (encQ f x) W fun e W' =>
      (e = .returned (.bool true) ∧ J (pre ++ [x]) W' ∧ Below n₀ W W') ∨ (e = .returned (.bool false) ∧ Jx (pre ++ [x]) W'))
    (W : World) (hBq : W.cell? ⟨Bq, 0, none⟩ = some (.pointer (some ⟨p, 0, none⟩))) (hp : W.cell? ⟨p, 0, none⟩ = some wv) (hown : Rd W wv 1 bs.length (bs.map .bool) (fun b => b < n₀)) (h0 : J [] W) :
    CallsIn F n Try.prog 17 #[.func (.yield l) #[] #[], .pointer (some ⟨Bq, 0, none⟩)] W fun e W' => (∃ v, e = .returned v) ∧
      ((∃ xs, xs = prs bs bs.length ∧ J xs W') ∨ (∃ pre, pre <+: prs bs bs.length ∧ Jx pre W')) := by
  obtain ⟨_, hmax, ad, cap, rfl, _, _, _, h7⟩ := hown
  unfold maxLen at hmax
  refine callsIn_of_wp Try.func17 rfl h17 ?_ hro
  simp only [Try.ntmps17, List.size_toArray, List.length_cons, List.length_nil, Nat.reduceAdd, Nat.reduceSub, Array.replicate_succ, Array.replicate_zero, List.push_toArray, List.append_toArray, List.nil_append, List.cons_append]
  gi_wp2
  gi_loopw [3, 11] (fun c i wr => ∃ j : Nat, j ≤ bs.length ∧ i = .int .i64 j ∧ c = .int .i64 ((prs bs j).length : Nat) ∧ J (prs bs j) wr ∧ Below n₀ W wr)
    (fun _ i _ => bs.length - (intOf i).toNat)
  case atStart => exact ⟨0, Nat.zero_le _, rfl, rfl, h0, Below.refl _ _⟩
  case round =>
    obtain ⟨j, hj, rfl, rfl, hJs, hnx⟩ := hrel
    have hle := prs_le bs j
    by_cases hlt : j < bs.length
    · obtain ⟨b, off, rfl, hb, hcl⟩ : ∃ b off, ad = some ⟨b, off, none⟩ ∧ _ ∧ _ := h7.resolve_left (by omega)
      have hcx : wr.cell? ⟨b, off + j, none⟩ = some (.bool bs[j]) := (hnx.cell (p := ⟨b, off + j, none⟩) hb).trans (hcl j (.bool bs[j]) (by simp [hlt]))
      have hb1 : (0 : Int) ≤ (j : Int) := by omega
      have hb2 : (j : Int) < bs.length := by omega
      have hb3 : (j : Int) < 9223372036854775807 := by omega
      have hb4 : ((prs bs j).length : Int) < 9223372036854775807 := by omega
      clear hcl h7
      by_cases hv : bs[j] = true
      · rw [hv] at hcx
        have hsn := prs_snoc bs j (by rw [List.getElem?_eq_getElem hlt, hv])
        have hN : (prs bs j).length < (prs bs bs.length).length := by
          have := (prs_mono bs (show j + 1 ≤ bs.length by omega)).length_le
          rw [hsn] at this; simp at this; omega
        obtain ⟨fn, tmps, assign, body, hy, hR⟩ := hY _ ((prs bs j).length, j) wr hJs hN
        dsimp only [encQ] at hy
        rw [hf j (by rw [List.getElem?_eq_getElem hlt, hv])] at hy
        have Hsn := Lib.hid hsn
        clear hsn hv
        generalize hL : (prs bs j).length = L at *
        have HL := Lib.hid hL
        clear hL
        gi_wp2
        refine hR.mono ?_
        rintro e W3 (⟨rfl, hJ3, hk3⟩ | ⟨rfl, hJx3⟩)
        · gi_wp2
          go_roundw
          case rel => exact ⟨j + 1, by omega, by go_num, by rw [Hsn.out]; simp [HL.out], by rw [Hsn.out]; exact hJ3, hnx.trans hk3⟩
          case measure => simp [intOf]; omega
        · gi_wp2
          refine bodyPost_ret (results_none rfl _ _ _) rfl ?_
          exact ⟨⟨_, rfl⟩, .inr ⟨_, by have := prs_mono bs (show j + 1 ≤ bs.length by omega); rw [Hsn.out] at this; exact this, hJx3⟩⟩
      · have hv : bs[j] = false := by simpa using hv
        rw [hv] at hcx
        have Hsn := Lib.hid (prs_skip bs j (by rw [List.getElem?_eq_getElem hlt, hv]))
        clear hv
        gi_wp2
        go_roundw
        case rel => exact ⟨j + 1, by omega, by go_num, by rw [Hsn.out], by rw [Hsn.out]; exact hJs, hnx⟩
        case measure => simp [intOf]; omega
    · obtain rfl : j = bs.length := by omega
      gi_wp2
      go_end0
      exact ⟨⟨_, rfl⟩, .inl ⟨_, rfl, hJs⟩⟩

theorem all_stops (f : Nat → Nat) (F : Fence) (n : Nat) (h17 : F.fn 17) (hro : F.round = none) (hn : 1 ≤ n) (Bq n₀ p : Nat) (bs : List Bool) (hf : ∀ j, bs[j]? = some true → f j = j) (wv : Value) (w : World) (hBq : w.cell? ⟨Bq, 0, none⟩ = some (.pointer (some ⟨p, 0, none⟩))) (hp : w.cell? ⟨p, 0, none⟩ = some wv)
    (hown : Rd w wv 1 bs.length (bs.map .bool) (fun b => b < n₀)) :
    SeqStopsK F n Try.prog 17 #[.pointer (some ⟨Bq, 0, none⟩)] (encQ f) (Below n₀) (fun xs => xs = prs bs bs.length) (fun pre => pre <+: prs bs bs.length) (prs bs bs.length).length w := fun l J Jx W hW _ _ hY h0 => by
  have hc : Chg (fun _ => False) w W := Chg.of_below hW (fun k h1 h2 => by omega)
  exact all1_in f F n h17 hro hn l Bq n₀ p bs hf wv J Jx hY W (hc.cell hBq (fun e => e)) (hc.cell hp (fun e => e)) (hown.chg hc (fun _ _ e => e)) h0

theorem allQ (p : Nat) (w : World) : Calls Try.prog 14 #[.pointer (some ⟨p, 0, none⟩)] w fun e w' => e = .returned (.func (.func 17) #[] #[.pointer (some ⟨w.heap.size, 0, none⟩)]) ∧ w.alloc (.cells #[.pointer (some ⟨p, 0, none⟩)] 22) = w' := by
  go_enter Try.func14, Try.ntmps14
  go_wp2
  go_ret
  exact ⟨rfl, rfl⟩

def Qs.pick (s : Qs) : Nat := if 0 ≤ s.ps.headD 0 ∧ s.ps.headD 0 < s.cnt then (s.ps.headD 0).toNat else 0
def Qs.next (s : Qs) : Nat := ((prs s.bs s.bs.length)[s.pick]?.map (·.2)).getD 0
def Qs.took (s : Qs) : Qs := ⟨s.bs.set s.next false, s.ps.tail, s.tk + 1⟩

def TakePost (w : World) (p : Nat) (s : Qs) (F : Nat → Prop) (e : Ending) (w' : World) : Prop :=
  e = .returned (.tuple #[.int .i64 s.next, .bool true]) ∧ QAt w' p s.took F ∧ Chg F w w'
def TakeNo (w : World) (e : Ending) (w' : World) : Prop :=
  e = .returned (.tuple #[.int .i64 0, .bool false]) ∧ Chg (fun _ => False) w w'

set_option maxHeartbeats 1000000 in
theorem takeNo (a : Option Addr) (w : World) (h : ∀ w, Calls Try.prog 9 #[.pointer a] w fun e w' => e = .returned (.int .i64 0) ∧ w = w') : Calls Try.prog 6 #[.pointer a] w (TakeNo w) := by
  have H := Lib.hid h
  clear h
  have hC := Lib.hid ((((Chg.refl (fun _ => False) w).alloc (.cells #[.pointer a] 22)).alloc (.cells #[.int .i64 0] 3)).alloc (.cells #[.bool false] 4))
  go_enter Try.func6, Try.ntmps6
  go_wp2_with (go_at_call 9; refine (H.out _).mono ?_; rintro e w' ⟨rfl, rfl⟩)
  refine bodyPost_ret (v := .tuple #[.int .i64 0, .bool false]) (by simp [results, Try.results6, go_sem]) rfl ⟨rfl, ?_⟩
  exact hC.out

/-- What Take finds behind its three boxes. -/
structure Tk (w w0 : World) (p : Nat) (s : Qs) (F : Nat → Prop) : Prop where
  chg : Chg (fun _ => False) w w0
  size : w0.heap.size = w.heap.size + 3
  box : w0.heap[w.heap.size]? = some (.cells #[.pointer (some ⟨p, 0, none⟩)] 22)
  r1 : w0.heap[w.heap.size + 1]? = some (.cells #[.int .i64 0] 3)
  r2 : w0.heap[w.heap.size + 2]? = some (.cells #[.bool false] 4)
  q : QAt w0 p s F
  lt : ∀ b, F b → b < w.heap.size

theorem tk_of (w : World) (p : Nat) (s : Qs) (F : Nat → Prop) (h : QAt w p s F) : Tk w (((w.alloc (.cells #[.pointer (some ⟨p, 0, none⟩)] 22)).alloc (.cells #[.int .i64 0] 3)).alloc (.cells #[.bool false] 4)) p s F := by
  have c1 := chg_alloc (fun _ => False) w (.cells #[.pointer (some ⟨p, 0, none⟩)] 22)
  have c : Chg (fun _ => False) w (((w.alloc (.cells #[.pointer (some ⟨p, 0, none⟩)] 22)).alloc (.cells #[.int .i64 0] 3)).alloc (.cells #[.bool false] 4)) := (c1.alloc _).alloc _
  refine ⟨c, by simp, blk_alloc (blk_alloc (blk_alloc_new w _) _) _, blk_alloc ?_ _, ?_, h.chg c (fun _ _ e => e), h.lt⟩
  · have := blk_alloc_new (w.alloc (.cells #[.pointer (some ⟨p, 0, none⟩)] 22)) (.cells #[.int .i64 0] 3)
    rwa [World.size_alloc] at this
  · have := blk_alloc_new ((w.alloc (.cells #[.pointer (some ⟨p, 0, none⟩)] 22)).alloc (.cells #[.int .i64 0] 3)) (.cells #[.bool false] 4)
    rwa [World.size_alloc, World.size_alloc] at this

/-- What Take holds behind the choice of a pick. -/
structure Mid (w w2 : World) (p tb : Nat) (s : Qs) (rest : List Int) (F : Nat → Prop) (pk : Int) : Prop where
  chg : Chg F w w2
  tb1 : w.heap.size + 3 ≤ tb
  box : w2.heap[w.heap.size]? = some (.cells #[.pointer (some ⟨p, 0, none⟩)] 22)
  r1 : w2.heap[w.heap.size + 1]? = some (.cells #[.int .i64 0] 3)
  r2 : w2.heap[w.heap.size + 2]? = some (.cells #[.bool false] 4)
  t4 : w2.heap[tb]? = some (.cells #[.int .i64 pk] 3)
  q : QAt w2 p ⟨s.bs, rest, s.tk⟩ F
  lt : ∀ b, F b → b < w.heap.size

theorem Mid.drewN {w w2 : World} {p tb : Nat} {s : Qs} {rest : List Int} {F : Nat → Prop} {pk : Int} (h : Mid w w2 p tb s rest F pk) (n : Nat) : Mid w (w2.drewN n) p tb s rest F pk :=
  ⟨h.chg.drewN n, h.tb1, h.box, h.r1, h.r2, h.t4, h.q.chg (chg_drewN (fun _ => False) _ _) (fun _ _ e => e), h.lt⟩
theorem Mid.put {w w2 : World} {p tb : Nat} {s : Qs} {rest : List Int} {F : Nat → Prop} {pk : Int} (h : Mid w w2 p tb s rest F pk) (v : Int) : Mid w (w2.setCell ⟨tb, 0, none⟩ (.int .i64 v)) p tb s rest F v := by
  have t1 := h.tb1
  refine ⟨h.chg.setCell (fun e => ?_) _, t1, blk_setCell_other h.box (by show _ ≠ tb; omega) _, blk_setCell_other h.r1 (by show _ ≠ tb; omega) _, blk_setCell_other h.r2 (by show _ ≠ tb; omega) _, blk_setCell h.t4 _, h.q.chg (chg_setCell _ tb 0 _) (fun b hb e => ?_), h.lt⟩
  · have e : tb < w.heap.size := e; omega
  · have := h.lt b hb; omega

theorem Mid.same {w w2 w3 : World} {p tb : Nat} {s : Qs} {rest : List Int} {F : Nat → Prop} {pk : Int} (h : Mid w w2 p tb s rest F pk) (c : Chg (fun _ => False) w2 w3) : Mid w w3 p tb s rest F pk :=
  ⟨h.chg.then' c (fun _ _ e => e.elim), h.tb1, c.blk h.box (fun e => e), c.blk h.r1 (fun e => e), c.blk h.r2 (fun e => e), c.blk h.t4 (fun e => e), h.q.chg c (fun _ _ e => e), h.lt⟩
/-- Behind the three boxes and the fourth. -/
theorem mid_of {w w0 : World} {p : Nat} {s : Qs} {F : Nat → Prop} (T : Tk w w0 p s F) : Mid w (w0.alloc (.cells #[.int .i64 0] 3)) p w0.heap.size s s.ps F 0 := by
  have c := chg_alloc (fun _ => False) w0 (.cells #[.int .i64 0] 3)
  exact ⟨(T.chg.trans c).mono (fun _ _ e => e.elim), Nat.le_of_eq T.size.symm, c.blk T.box (fun e => e), c.blk T.r1 (fun e => e), c.blk T.r2 (fun e => e), blk_alloc_new _ _, T.q.chg c (fun _ _ e => e), T.lt⟩

/-- The picks are cut. -/
theorem Mid.cut {w w2 : World} {p tb : Nat} {s : Qs} {pk0 pk : Int} {rest : List Int} {F : Nat → Prop} (h : Mid w w2 p tb s (pk :: rest) F pk0) {sv : Value} (wv pv : Value) (G : Nat → Prop)
    (hb : w2.heap[p]? = some (.cells #[wv, .int .i64 s.cnt, pv, .int .i64 s.tk] 35)) (hr : w2.ownsRow 0 4 1 wv s.bs.length (s.bs.map .bool)) (hv : Rd w2 sv 1 rest.length (rest.map (.int .i64)) G)
    (d1 : wv.ownBlock ≠ some p) (d2 : ¬ G p) (d3 : ∀ b, wv.ownBlock = some b → ¬ G b) (d4 : ∀ b, G b → b < w2.heap.size) (hF : F = fun k => k = p ∨ wv.ownBlock = some k ∨ G k) :
    Mid w (((w2.setCell ⟨tb, 0, none⟩ (.int .i64 pk)).setCell ⟨p, 2, none⟩ sv).drew) p tb s rest F pk := by
  have t1 := h.tb1
  have hp : F p := by rw [hF]; exact .inl rfl
  have hlt := h.lt p hp
  have M := h.put pk
  refine ⟨(M.chg.setCell (a := ⟨p, 2, none⟩) (fun _ => hp) _).drew, t1, blk_setCell_other M.box (by show _ ≠ p; omega) _, blk_setCell_other M.r1 (by show _ ≠ p; omega) _, blk_setCell_other M.r2 (by show _ ≠ p; omega) _, blk_setCell_other M.t4 (by show _ ≠ p; omega) _, ?_, h.lt⟩
  have c1 := chg_setCell w2 tb 0 (.int .i64 pk)
  have c2 := chg_setCell (w2.setCell ⟨tb, 0, none⟩ (.int .i64 pk)) p 2 sv
  have b1 : ∀ b, F b → ¬ b = tb := fun b hb e => by have := h.lt b hb; omega
  refine QAt.chg (w := (w2.setCell ⟨tb, 0, none⟩ (.int .i64 pk)).setCell ⟨p, 2, none⟩ sv) (S := fun _ => False) ?_ ((Chg.refl _ _).drew) (fun _ _ e => e)
  refine ⟨wv, sv, G, ?_, owns_chg (owns_chg hr c1 (fun k hk e => b1 k (by rw [hF]; exact .inr (.inl hk)) e)) c2 (fun k hk e => d1 (by rw [hk, e])), (hv.chg c1 (fun b hb e => b1 b (by rw [hF]; exact .inr (.inr hb)) e)).chg c2 (fun b hb e => d2 (e ▸ hb)), d1, d2, d3, fun b hb => by simpa [World.setCell] using d4 b hb, hF⟩
  have := blk_setCell (i := 2) (c1.blk hb (b1 p hp)) sv
  rw [this]
  rfl

theorem Rd.tail {w : World} {b off c : Nat} {x : Value} {xs : List Value} {n : Nat} {G : Nat → Prop} (h : Rd w (.slice (some ⟨b, off, none⟩) (n + 1) c) 1 (n + 1) (x :: xs) G) :
    Rd w (.slice (some (if c = 1 then ⟨b, off, none⟩ else ⟨b, off + 1, none⟩)) n (c - 1)) 1 n xs G := by
  obtain ⟨hlen, hmax, ad', cap, he, h4, h5, h6, h7⟩ := h
  obtain ⟨rfl, _, rfl⟩ := Value.slice.inj he
  simp at hlen
  refine ⟨by omega, by omega, _, _, rfl, by omega, by omega, (fun e => by cases e), ?_⟩
  by_cases hn : n = 0
  · exact .inl hn
  · right
    obtain ⟨b', off', he, hg, hc⟩ := h7.resolve_left (by omega)
    simp only [Option.some.injEq, Addr.mk.injEq] at he
    obtain ⟨rfl, rfl, _⟩ := he
    rw [if_neg (by omega)]
    refine ⟨b, off + 1, rfl, hg, fun j u hu => ?_⟩
    have := hc (j + 1) u (by simpa using hu)
    rwa [show off + (j + 1) = off + 1 + j by omega] at this
end Go.Proofs.Ytjkcoooijfbfpaa
