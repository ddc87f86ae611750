/- Take. -/
import Derived.Test.YtjkcoooijfbfpaaQ3
import Derived.Deep.QuietTactic
import Derived.BigQuiet
import Derived.Deep.Cut
namespace Go.Proofs.Ytjkcoooijfbfpaa
open Go.RowKit Go.Shelf
attribute [local go_sem] Oper.semAt_some

/-- What Take's loop leaves when it has found its node. -/
def Found (w0 : World) (r1 r2 p : Nat) (s' : Qs) (F : Nat → Prop) (i : Nat) (W : World) : Prop :=
  W.heap[r1]? = some (.cells #[.int .i64 i] 3) ∧ W.heap[r2]? = some (.cells #[.bool true] 4) ∧ QAt W p s' F ∧ Chg (fun k => F k ∨ k = r1 ∨ k = r2) w0 W

theorem Found.row {w0 A B : World} {r1 r2 p i : Nat} {s' : Qs} {F : Nat → Prop} {row : Option Nat} (h : Found w0 r1 r2 p s' F i A) (hg : A.grownBy B row) (hr : ∀ k, row = some k → w0.heap.size ≤ k) (h1 : r1 < w0.heap.size) (h2 : r2 < w0.heap.size) (hF : ∀ b, F b → b < w0.heap.size) : Found w0 r1 r2 p s' F i B := by
  have hc : Chg (fun k => row = some k) A B := (Chg.refl _ _).grown hg (fun k hk _ => hk)
  obtain ⟨g1, g2, g3, g4⟩ := h
  exact ⟨hc.blk g1 (fun e => by have := hr _ e; omega), hc.blk g2 (fun e => by have := hr _ e; omega), g3.chg hc (fun b hb e => by have := hr _ e; have := hF b hb; omega), g4.then' hc (fun k hk e => by have := hr _ e; omega)⟩

theorem Found.mk' {w w4 W : World} {p tb g cap : Nat} {s : Qs} {rest : List Int} {F : Nat → Prop} {pk : Int} {pv : Value} {G : Nat → Prop} (M : Mid w W p tb s rest F pk) (cW : Chg (fun _ => False) w4 W) (i : Nat) (hi : s.bs[i]? = some true)
    (hb : W.heap[p]? = some (.cells #[.slice (some ⟨g, 0, none⟩) s.bs.length cap, .int .i64 s.cnt, pv, .int .i64 s.tk] 35))
    (hset : (W.setCell ⟨g, i, none⟩ (.bool false)).ownsRow 0 4 1 (.slice (some ⟨g, 0, none⟩) s.bs.length cap) s.bs.length ((s.bs.map .bool).set i (.bool false))) (hp : Rd W pv 1 rest.length (rest.map (.int .i64)) G)
    (d1 : (Value.slice (some ⟨g, 0, none⟩) s.bs.length cap).ownBlock ≠ some p) (d2 : ¬ G p) (d3 : ∀ b, (Value.slice (some ⟨g, 0, none⟩) s.bs.length cap).ownBlock = some b → ¬ G b) (d4 : ∀ b, G b → b < W.heap.size)
    (hF : F = fun k => k = p ∨ (Value.slice (some ⟨g, 0, none⟩) s.bs.length cap).ownBlock = some k ∨ G k) :
    Found w4 (w.heap.size + 1) (w.heap.size + 1 + 1) p ⟨s.bs.set i false, rest, s.tk + 1⟩ F i
      (((((W.setCell ⟨g, i, none⟩ (.bool false)).setCell ⟨p, 1, none⟩ (.int .i64 ((s.cnt : Int) - 1))).setCell ⟨p, 3, none⟩ (.int .i64 ((s.tk : Int) + 1))).setCell ⟨w.heap.size + 1, 0, none⟩ (.int .i64 i)).setCell ⟨w.heap.size + 1 + 1, 0, none⟩ (.bool true)) := by
  have hFp : F p := by rw [hF]; exact .inl rfl
  have hFg : F g := by rw [hF]; exact .inr (.inl rfl)
  have lp := M.lt p hFp
  have lg := M.lt g hFg
  have hgp : g ≠ p := fun e => d1 (by simp [Value.ownBlock, e])
  have hct := count_unset hi
  have hcn : ((⟨s.bs.set i false, rest, s.tk + 1⟩ : Qs).cnt : Int) = (s.cnt : Int) - 1 := by
    have : (s.bs.set i false).count true + 1 = s.bs.count true := hct
    simp only [Qs.cnt]; omega
  have c1 := chg_setCell W g i (.bool false)
  have c2 := chg_setCell (W.setCell ⟨g, i, none⟩ (.bool false)) p 1 (.int .i64 ((s.cnt : Int) - 1))
  have c3 := chg_setCell ((W.setCell ⟨g, i, none⟩ (.bool false)).setCell ⟨p, 1, none⟩ (.int .i64 ((s.cnt : Int) - 1))) p 3 (.int .i64 ((s.tk : Int) + 1))
  have c4 := chg_setCell (((W.setCell ⟨g, i, none⟩ (.bool false)).setCell ⟨p, 1, none⟩ (.int .i64 ((s.cnt : Int) - 1))).setCell ⟨p, 3, none⟩ (.int .i64 ((s.tk : Int) + 1))) (w.heap.size + 1) 0 (.int .i64 i)
  have c5 := chg_setCell ((((W.setCell ⟨g, i, none⟩ (.bool false)).setCell ⟨p, 1, none⟩ (.int .i64 ((s.cnt : Int) - 1))).setCell ⟨p, 3, none⟩ (.int .i64 ((s.tk : Int) + 1))).setCell ⟨w.heap.size + 1, 0, none⟩ (.int .i64 i)) (w.heap.size + 1 + 1) 0 (.bool true)
  have r1 := c3.blk (c2.blk (c1.blk M.r1 (by show ¬ _ = g; omega)) (by show ¬ _ = p; omega)) (by show ¬ _ = p; omega)
  have r2 := c3.blk (c2.blk (c1.blk M.r2 (by show ¬ _ = g; omega)) (by show ¬ _ = p; omega)) (by show ¬ _ = p; omega)
  refine ⟨c5.blk (blk_setCell r1 _) (by show ¬ _ = _; omega), blk_setCell (c4.blk r2 (by show ¬ _ = _; omega)) _, ?_, ?_⟩
  · refine QAt.chg (QAt.chg (S := fun k => k = w.heap.size + 1) ?_ c4 (fun b hb e => by have := M.lt b hb; omega)) c5 (fun b hb e => by have := M.lt b hb; omega)
    refine ⟨.slice (some ⟨g, 0, none⟩) s.bs.length cap, pv, G, ?_, ?_, ?_, d1, d2, d3, fun b hb => by simpa [World.setCell] using d4 b hb, hF⟩
    · have := blk_setCell (i := 3) (blk_setCell (i := 1) (c1.blk hb (by show ¬ p = g; omega)) (.int .i64 ((s.cnt : Int) - 1))) (.int .i64 ((s.tk : Int) + 1))
      rw [this, hcn]
      rfl
    · have := owns_chg (owns_chg hset c2 (fun k hk e => d1 (by rw [hk, e]))) c3 (fun k hk e => d1 (by rw [hk, e]))
      simpa [List.map_set] using this
    · exact ((hp.chg c1 (fun b hb e => d3 g rfl (e ▸ hb))).chg c2 (fun b hb e => d2 (e ▸ hb))).chg c3 (fun b hb e => d2 (e ▸ hb))
  · have q0 : Chg (fun k => F k ∨ k = w.heap.size + 1 ∨ k = w.heap.size + 1 + 1) w4 W := cW.mono (fun _ _ e => e.elim)
    exact ((((q0.setCell (a := ⟨g, i, none⟩) (fun _ => .inl hFg) _).setCell (a := ⟨p, 1, none⟩) (fun _ => .inl hFp) _).setCell (a := ⟨p, 3, none⟩) (fun _ => .inl hFp) _).setCell (a := ⟨w.heap.size + 1, 0, none⟩) (fun _ => .inr (.inl rfl)) _).setCell (a := ⟨w.heap.size + 1 + 1, 0, none⟩) (fun _ => .inr (.inr rfl)) _

/-- What stands behind so many statements. -/
def codeR : Nat → Code → Code
  | 0, c => c
  | n + 1, .seq _ b => codeR n b
  | _, c => c

set_option maxHeartbeats 2000000 in
set_option maxRecDepth 100000 in
theorem takeLoop (p tb : Nat) (s : Qs) (F : Nat → Prop) (w wc : World) (hM0 : Mid w wc p tb s s.ps.tail F (s.pick : Nat)) (hcnt : 0 < s.cnt) (htk : s.tk ≤ 1000000) (hlen : s.bs.length ≤ 1000000) (hcl : s.cnt ≤ s.bs.length) (u9  u10  u11  u12  u13  u14  u15  u16  u17  u18  u19  u20  u21  u22  u23  u24  u25  u26  u27  u28  u29  u30  u31  u32  u33  u34  u35  u36  u37  u38  u39  u40  u41  u42  u43  u44  u45  u46  u47  u48  u49  u50  u51  u52  u53  u54  u55  u56  u57  u58  u59  u60  u61  u62  u63  u64  u65  u66  u67 : Value) :
    (codeR 5 (Try.f6.body.getD .skip)).wp Try.prog (bodyPostM Fence.wide 3 Try.prog Try.f6 (TakePost w p s F)) { tmps := #[.pointer (some ⟨p, 0, none⟩), .pointer (some ⟨w.heap.size, 0, none⟩), .pointer (some ⟨w.heap.size + 1, 0, none⟩), .pointer (some ⟨w.heap.size + 1 + 1, 0, none⟩), .pointer (some ⟨tb, 0, none⟩), undef, undef, .pointer (some ⟨p, 0, none⟩), .int .i64 s.cnt, u9, u10, u11, u12, u13, u14, u15, u16, u17, u18, u19, u20, u21, u22, u23, u24, u25, u26, u27, u28, u29, u30, u31, u32, u33, u34, u35, u36, u37, u38, u39, u40, u41, u42, u43, u44, u45, u46, u47, u48, u49, u50, u51, u52, u53, u54, u55, u56, u57, u58, u59, u60, u61, u62, u63, u64, u65, u66, u67], defers := [] } wc := by
  generalize hQ : bodyPostM Fence.wide 3 Try.prog Try.f6 (TakePost w p s F) = Q
  simp only [codeR, Try.f6, Option.getD_some]
  subst hQ
  have hM := Lib.hid hM0
  clear hM0
  have m0 := cell_of_blk (i := 0) hM.out.box rfl
  go_wp2_with fail
  refine (allQ p wc).mono ?_
  rintro e w4' ⟨rfl, rfl⟩
  go_wp2_with fail
  have cA := chg_alloc (fun _ => False) wc (.cells #[.pointer (some ⟨p, 0, none⟩)] 22)
  have M4 := Lib.hid (hM.out.same cA)
  have bA := blk_alloc_new wc (.cells #[.pointer (some ⟨p, 0, none⟩)] 22)
  have hBq : (wc.alloc (.cells #[.pointer (some ⟨p, 0, none⟩)] 22)).cell? ⟨wc.heap.size, 0, none⟩ = some (.pointer (some ⟨p, 0, none⟩)) := cell_of_blk (i := 0) bA rfl
  clear m0 bA
  generalize wc.alloc (.cells #[.pointer (some ⟨p, 0, none⟩)] 22) = w4 at *
  have hsz4 : wc.heap.size ≤ w4.heap.size := cA.size
  have HsA := Lib.hid hsz4
  clear hsz4 cA
  obtain ⟨i0, hi0⟩ : ∃ i0 : Nat, s.bs[i0]? = some true := by
    have := List.count_pos_iff.1 hcnt
    exact List.getElem?_of_mem this
  obtain ⟨f, hf1, hf2⟩ : ∃ f : Nat → Nat, (∀ j, s.bs[j]? = some true → f j = j) ∧ ∀ j, s.bs[f j]? = some true := by
    refine ⟨fun j => if s.bs[j]? = some true then j else i0, fun j hj => if_pos hj, fun j => ?_⟩
    by_cases hj : s.bs[j]? = some true
    · simp only [if_pos hj]; exact hj
    · simp only [if_neg hj]; exact hi0
  have Hf1 := Lib.hid hf1
  have Hf2 := Lib.hid hf2
  clear hf1 hf2 hi0
  obtain ⟨wv', pv', G', hb', hr', hp', e1, e2, e3, e4, hF'⟩ := M4.out.q
  have hp4 : w4.cell? ⟨p, 0, none⟩ = some wv' := cell_of_blk (i := 0) hb' rfl
  have hown4 : Rd w4 wv' 1 s.bs.length (s.bs.map .bool) (fun b => b < w4.heap.size) := (Rd.of_owns hr').mono (fun b hb => (hr'.lt b hb).2)
  have HAS := Lib.hid (all_stops f Fence.wide (3 - 1) trivial rfl (by omega) wc.heap.size w4.heap.size p s.bs Hf1.out wv' w4 hBq hp4 hown4)
  have hwl : w.heap.size + 2 < w4.heap.size := blk_lt M4.out.r2
  have Hwl := Lib.hid hwl
  clear hb' hr' hp' e1 e2 e3 e4 hF' hp4 hown4 hBq hwl
  refine (wpIn_wide (n := 3)).1 ?_
  refine wpIn_rangeFunc_ownF (F := Fence.wide) (n := 3) rfl (by omega) (gf := 17) (lb := #[.pointer (some ⟨wc.heap.size, 0, none⟩)]) rfl trivial (enters_of Try.func17 (by kernel_rfl) rfl) HAS.out (fun h k => belowK_t h k) (belowK_b (Nat.le_refl _)) (Below.refl _ _) (fun _ => rfl)
    (fun pre W => (∀ x ∈ pre, x.1 ≠ s.pick) ∧ Below w4.heap.size w4 W)
    (fun c pre W => c = .ret ∧ ∃ x ∈ pre, x.1 = s.pick ∧ Found w4 (w.heap.size + 1) (w.heap.size + 1 + 1) p ⟨s.bs.set (f x.2) false, s.ps.tail, s.tk + 1⟩ F (f x.2) W)
    ?hI ?hIx ⟨by simp, Below.refl _ _⟩ (fun x => { tmps := #[.pointer (some ⟨p, 0, none⟩), .pointer (some ⟨w.heap.size, 0, none⟩), .pointer (some ⟨w.heap.size + 1, 0, none⟩), .pointer (some ⟨w.heap.size + 1 + 1, 0, none⟩), .pointer (some ⟨tb, 0, none⟩), .int .i64 x.1, .int .i64 (f x.2), .pointer (some ⟨p, 0, none⟩), .int .i64 s.cnt, u9, u10, u11, u12, u13, u14, u15, u16, u17, u18, u19, u20, u21, u22, u23, u24, u25, u26, u27, u28, u29, u30, u31, u32, u33, u34, u35, u36, u37, u38, u39, .pointer (some ⟨p, 0, none⟩), .func (.func 17) #[] #[.pointer (some ⟨wc.heap.size, 0, none⟩)], .int .i64 x.1, .int .i64 (f x.2), u44, u45, u46, u47, u48, u49, u50, u51, u52, u53, u54, u55, u56, u57, u58, u59, u60, u61, u62, u63, u64, u65, u66, u67], defers := [] }) ?assign ?body ?done ?stop
  case hI =>
    intro s' A B row hs hg hr
    exact ⟨hs.1, hs.2.grown hg hs.2.size (fun k e => (hr k e).1)⟩
  case hIx =>
    intro c s' A B row hs hg hr
    obtain ⟨rfl, x, hx, hxp, hfd⟩ := hs
    exact ⟨rfl, x, hx, hxp, hfd.row hg (fun k e => (hr k e).1) (by have := Hwl.out; omega) (by have := Hwl.out; omega) (fun b hb => by have := M4.out.lt b hb; have := Hwl.out; omega)⟩
  case assign =>
    intro l x W K hK
    gi_wp2
    exact hK
  case body =>
    rintro l pre x W ⟨hne, hbl⟩ _
    have cW : Chg (fun _ => False) w4 W := Chg.of_below hbl (fun k h1 h2 => by omega)
    have MW := Lib.hid (M4.out.same cW)
    have m0 := cell_of_blk (i := 0) MW.out.box rfl
    have m4 := cell_of_blk (i := 0) MW.out.t4 rfl
    by_cases hx : x.1 = s.pick
    · have hx1 : ((x.1 : Int) == (s.pick : Int)) = true := by simp [hx]
      have hx2 : (x.1 == s.pick) = true := by simp [hx]
      have Hx := Lib.hid hx
      have hi := Hf2.out x.2
      generalize hii : f x.2 = i at *
      have hil : i < s.bs.length := (List.getElem?_eq_some_iff.1 hi).1
      have Hi := Lib.hid hi
      have Hii := Lib.hid hii
      obtain ⟨wv, pv, G, hb, hr, hp, d1, d2, d3, d4, hF⟩ := MW.out.q
      obtain ⟨g, cap, rfl, _, ⟨old, hold⟩, hfz, hset⟩ := owns_at hr hil
      have b0 : W.cell? ⟨p, 0, none⟩ = some (.slice (some ⟨g, 0, none⟩) s.bs.length cap) := cell_of_blk (i := 0) hb rfl
      have b1 : W.cell? ⟨p, 1, none⟩ = some (.int .i64 s.cnt) := cell_of_blk (i := 1) hb rfl
      have b3 : W.cell? ⟨p, 3, none⟩ = some (.int .i64 s.tk) := cell_of_blk (i := 3) hb rfl
      have f1 := frozen_of_blk (i := 1) hb
      have f3 := frozen_of_blk (i := 3) hb
      have x1 := cell_of_blk (i := 0) MW.out.r1 rfl
      have x2 : W.cell? ⟨w.heap.size + 1 + 1, 0, none⟩ = some (.bool false) := cell_of_blk (i := 0) MW.out.r2 rfl
      have y1 := frozen_of_blk (i := 0) MW.out.r1
      have y2 : W.frozen? ⟨w.heap.size + 1 + 1, 0, none⟩ = false := frozen_of_blk (i := 0) MW.out.r2
      have lp : p < w.heap.size := MW.out.lt p (by rw [hF]; exact .inl rfl)
      have lg : g < w.heap.size := MW.out.lt g (by rw [hF]; exact .inr (.inl rfl))
      have n1 : ¬ g = p := fun e => d1 (by simp [Value.ownBlock, e])
      have n2 : ¬ p = g := fun e => n1 e.symm
      have n3 : ¬ w.heap.size = g := by omega
      have n4 : ¬ w.heap.size = p := by omega
      have n5 : ¬ w.heap.size + 1 = g := by omega
      have n6 : ¬ w.heap.size + 1 = p := by omega
      have n7 : ¬ w.heap.size + 1 + 1 = g := by omega
      have n8 : ¬ w.heap.size + 1 + 1 = p := by omega
      have hfin := Lib.hid (Found.mk' (w4 := w4) MW.out cW i hi hb (hset (.bool false)) hp d1 d2 d3 d4 hF)
      have k1 : (1 : Int) ≤ (s.cnt : Int) := by omega
      have k2 : (s.cnt : Int) ≤ 1000000 := by omega
      have k3 : (0 : Int) ≤ (s.tk : Int) := by omega
      have k4 : (s.tk : Int) ≤ 1000000 := by omega
      have k5 : (0 : Int) ≤ (i : Int) := by omega
      have k6 : (i : Int) < (s.bs.length : Int) := by omega
      have k7 : (s.bs.length : Int) ≤ 1000000 := by omega
      clear hb hr hp d1 d2 d3 d4 hF hi hii hx hset hne hbl lp lg
      gi_wp2
      refine ⟨((((KeepsOthers.setCell W _ _).trans (KeepsOthers.setCell _ _ _)).trans (KeepsOthers.setCell _ _ _)).trans (KeepsOthers.setCell _ _ _)).trans (KeepsOthers.setCell _ _ _), rfl, x, by simp, Hx.out, ?_⟩
      rw [Hii.out]
      exact hfin.out
    · have hx1 : ((x.1 : Int) == (s.pick : Int)) = false := by simp; omega
      have hx2 : (x.1 == s.pick) = false := by simpa using hx
      have Hx := Lib.hid hx
      have Hne := Lib.hid hne
      have Hbl := Lib.hid hbl
      clear hx hne hbl
      gi_wp2
      refine ⟨KeepsOthers.refl _, Below.refl _ _, fun y hy => ?_, Hbl.out⟩
      rcases List.mem_append.1 hy with h | h
      · exact Hne.out y h
      · simp only [List.mem_singleton] at h; subst h; exact Hx.out
  case done =>
    rintro D xs W hD rfl ⟨hne, hbl⟩ hK
    exfalso
    have hlt : s.pick < (prs s.bs s.bs.length).length := by
      rw [prs_all]
      show s.pick < s.cnt
      unfold Qs.pick
      split
      · omega
      · omega
    have hg : (prs s.bs s.bs.length)[s.pick]? = some (prs s.bs s.bs.length)[s.pick] := List.getElem?_eq_getElem hlt
    exact hne _ (List.getElem_mem hlt) (prs_get _ _ _ _ hg).1
  case stop =>
    rintro D c pre W hD hSp ⟨rfl, x, hx, hxp, hfd⟩ hK
    obtain ⟨k, hk⟩ := List.getElem?_of_mem (hSp.subset hx)
    obtain ⟨g1, g2, g3, _⟩ := prs_get _ _ _ _ hk
    obtain rfl : k = s.pick := by omega
    have hnx : s.next = x.2 := by rw [Qs.next, hk]; rfl
    rw [Hf1.out x.2 g3] at hfd
    obtain ⟨q1, q2, q3, q4⟩ := hfd
    have Hnx := Lib.hid hnx
    clear hnx hk g1 g3 hxp hx hSp
    have c5 : Chg (fun k => k = D) W (W.putObj D (.deferred none)) := (Chg.refl _ _).grown (grownBy_putObj' W D _) (fun k hk _ => (Option.some.inj hk).symm)
    have hw := Hwl.out
    have z1 := cell_of_blk (i := 0) (c5.blk q1 (by show ¬ _ = _; omega)) rfl
    have z2 : (W.putObj D (.deferred none)).cell? ⟨w.heap.size + 1 + 1, 0, none⟩ = some (.bool true) := cell_of_blk (i := 0) (c5.blk q2 (by show ¬ _ = _; omega)) rfl
    have hpost : TakePost w p s F (.returned (.tuple #[.int .i64 x.2, .bool true])) (W.putObj D (.deferred none)) := by
      refine ⟨by rw [Hnx.out], ?_, ?_⟩
      · have := q3.chg c5 (fun b hb e => by have := M4.out.lt b hb; omega)
        unfold Qs.took
        rw [Hnx.out]
        exact this
      · refine (M4.out.chg.then' (q4.then' c5 (fun k hk e => by omega)) (fun k hk e => ?_))
        rcases e with e | e | e
        · exact e
        · omega
        · omega
    have Hpost := Lib.hid hpost
    clear hpost q1 q2 q3 q4 c5
    gi_wp2
    refine ⟨by simp, .inl ⟨_, _, rfl, run_takeDeferred hK, ?_⟩⟩
    refine ⟨.tuple #[.int .i64 x.2, .bool true], ?_, Hpost.out⟩
    simp [results, Try.f6, go_sem, z1, z2]
end Go.Proofs.Ytjkcoooijfbfpaa
