/- Store. -/
import Derived.Test.YtcecllgmhpbehaaC5
namespace Go.Proofs.Ytcecllgmhpbehaa
open Go.RowKit

theorem map_modify_same {α β : Type} {g : α → β} {f : α → α} (h : ∀ x, g (f x) = g x) (l : List α) (i : Nat) : (l.modify i f).map g = l.map g := by
  apply List.ext_getElem?
  intro m
  simp only [List.getElem?_map, List.getElem?_modify]
  split
  · cases l[m]? <;> simp [h]
  · simp
theorem mem_modify_same {α β : Type} {g : α → β} {f : α → α} (h : ∀ x, g (f x) = g x) {l : List α} {i : Nat} {o : α} (ho : o ∈ l.modify i f) : ∃ o' ∈ l, g o = g o' := by
  have : g o ∈ (l.modify i f).map g := List.mem_map.2 ⟨o, ho, rfl⟩
  rw [map_modify_same h] at this
  obtain ⟨o', h1, h2⟩ := List.mem_map.1 this
  exact ⟨o', h1, h2.symm⟩

theorem HeapS.put {w w' : World} {p : Nat} {os : List Ob} {lim : Nat} {F : Nat → Prop} (h : HeapS w p os lim F) {i j : Nat} {ob : Ob} (v : Cv) (hi : os[i]? = some ob)
    (hb' : w'.heap[ob.cb]? = some (.cells ((ob.vs.set j v).flatMap Cv.cells).toArray 24 (0, 0))) (hc : Chg (· = ob.cb) w w') :
    HeapS w' p (os.modify i fun ob => { ob with vs := ob.vs.set j v }) lim F ∧ Chg F w w' := by
  obtain ⟨lv, hb, hl, ho, h1, h2, h3, h4, h5, h6, rfl⟩ := h
  have hm := List.mem_of_getElem? hi
  have hne := h2 ob hm
  have e1 : (os.modify i fun ob => { ob with vs := ob.vs.set j v }).map (fun o => (o.pb, o.cb, o.vs.length)) = os.map (fun o => (o.pb, o.cb, o.vs.length)) := map_modify_same (by simp) _ _
  have e2 : (os.modify i fun ob => { ob with vs := ob.vs.set j v }).map (fun o => o.pb) = os.map (fun o => o.pb) := map_modify_same (by simp) _ _
  have e3 : (os.modify i fun ob => { ob with vs := ob.vs.set j v }).map (fun o => o.cb) = os.map (fun o => o.cb) := map_modify_same (by simp) _ _
  have e4 : (os.modify i fun ob => { ob with vs := ob.vs.set j v }).map (fun o => o.vs.length) = os.map (fun o => o.vs.length) := map_modify_same (by simp) _ _
  have e5 : cnt (os.modify i fun ob => { ob with vs := ob.vs.set j v }) = cnt os := by unfold cnt; rw [e4]
  have e6 : (os.modify i fun ob => { ob with vs := ob.vs.set j v }).map (fun o => Value.pointer (some ⟨o.pb, 0, none⟩)) = os.map (fun o => Value.pointer (some ⟨o.pb, 0, none⟩)) := map_modify_same (by simp) _ _
  have hmem : ∀ o ∈ os.modify i fun ob => { ob with vs := ob.vs.set j v }, ∃ o' ∈ os, o.pb = o'.pb ∧ o.cb = o'.cb := by
    intro o hmo
    obtain ⟨o', h1, h2⟩ := mem_modify_same (g := fun o : Ob => (o.pb, o.cb)) (by simp) hmo
    simp only [Prod.mk.injEq] at h2
    exact ⟨o', h1, h2⟩
  refine ⟨⟨lv, ?_, ?_, ?_, h1, ?_, ?_, ?_, ?_, h6, ?_⟩, hc.mono ?_⟩
  · rw [e5]; exact hc.blk hb (fun e => hne.1 e.symm)
  · rw [e6, List.length_modify]; exact owns_chg hl hc (fun k hk e => hne.2.2.1 (by rw [hk, e]))
  · intro o hmo
    obtain ⟨m, hm⟩ := List.getElem?_of_mem hmo
    rw [List.getElem?_modify] at hm
    split at hm
    · rename_i him
      subst him
      rw [hi] at hm
      simp at hm
      subst hm
      obtain ⟨g1, g2, g3⟩ := ho ob (List.mem_of_getElem? hi)
      exact ⟨by simpa using hc.blk g1 (fun e => h3 ob (List.mem_of_getElem? hi) ob (List.mem_of_getElem? hi) e), hb', by simpa using g3⟩
    · rename_i him
      have hm' : os[m]? = some o := by cases hh : os[m]? <;> simp [hh] at hm ⊢ <;> exact hm
      have hmo' := List.mem_of_getElem? hm'
      obtain ⟨g1, g2, g3⟩ := ho o hmo'
      refine ⟨hc.blk g1 (fun e => h3 o hmo' ob (List.mem_of_getElem? hi) e), hc.blk g2 (fun e => him ?_), g3⟩
      have hml : m < os.length := (List.getElem?_eq_some_iff.1 hm').1
      have hil : i < os.length := (List.getElem?_eq_some_iff.1 hi).1
      have hom := (List.getElem?_eq_some_iff.1 hm').2
      have hoi := (List.getElem?_eq_some_iff.1 hi).2
      have := (List.getElem_inj (i := m) (j := i) (h₀ := by simpa using hml) (h₁ := by simpa using hil) h4).1 (by simp [hom, hoi, e])
      exact this.symm
  · intro o hmo
    obtain ⟨o', g1, g2, g3⟩ := hmem o hmo
    rw [g2, g3]; exact h2 o' g1
  · intro o hmo o2 hmo2
    obtain ⟨o', g1, g2, g3⟩ := hmem o hmo
    obtain ⟨o2', k1, k2, k3⟩ := hmem o2 hmo2
    rw [g2, k3]; exact h3 o' g1 o2' k1
  · show ((os.modify i fun ob => { ob with vs := ob.vs.set j v }).map (fun o => o.cb)).Nodup
    rw [e3]; exact h4
  · rw [e5]; exact h5
  · funext k
    have a1 : ∀ l : List Ob, (∃ o ∈ l, k = o.pb ∨ k = o.cb) ↔ (k ∈ l.map (fun o => o.pb) ∨ k ∈ l.map (fun o => o.cb)) := by
      intro l
      simp only [List.mem_map]
      constructor
      · rintro ⟨o, h1, rfl | rfl⟩
        · exact .inl ⟨o, h1, rfl⟩
        · exact .inr ⟨o, h1, rfl⟩
      · rintro (⟨o, h1, rfl⟩ | ⟨o, h1, rfl⟩)
        · exact ⟨o, h1, .inl rfl⟩
        · exact ⟨o, h1, .inr rfl⟩
    rw [eq_iff_iff, a1, a1, e2, e3]
  · rintro k _ rfl
    exact .inr (.inr ⟨ob, hm, .inr rfl⟩)

def StorePost (w : World) (p : Nat) (os : List Ob) (lim : Nat) (F : Nat → Prop) (q v : Cv) (e : Ending) (w' : World) : Prop :=
  e = .returned (.int .u8 (stC os q)) ∧ HeapS w' p (putC os q v) lim F ∧ Chg F w w'

theorem withStore (p : Nat) (os : List Ob) (lim : Nat) (F : Nat → Prop) (q v : Cv) (bq bv : Nat) (w : World) (h : HeapS w p os lim F)
    (hq : w.heap[bq]? = some (.cells #[.int .u8 q.k, .int .i64 q.o, .int .i64 q.n] 24 (0, 0))) (hv : w.heap[bv]? = some (.cells #[.int .u8 v.k, .int .i64 v.o, .int .i64 v.n] 24 (0, 0))) :
    Calls Try.prog 13 #[.pointer (some ⟨p, 0, none⟩), .agg #[.int .u8 q.k, .int .i64 q.o, .int .i64 q.n], .func (.func 14) #[] #[.pointer (some ⟨bv, 0, none⟩), .pointer (some ⟨bq, 0, none⟩)]] w (StorePost w p os lim F q v) := by
  by_cases hk : q.k = 1
  · cases hg : getC os q with
    | none =>
      obtain ⟨k, o, n⟩ := q
      obtain rfl : k = 1 := hk
      refine (withOut p os lim F o n _ w h hg).mono ?_
      rintro e w1 ⟨rfl, hc⟩
      exact ⟨by simp [stC, hg], by simpa [putC, hg] using h.chg hc (fun _ _ e => e), hc.mono (fun _ _ e => e.elim)⟩
    | some x =>
      obtain ⟨i, j, ob, rfl, hi, hx⟩ := getC_some hg
      have hj : j < ob.vs.length := (List.getElem?_eq_some_iff.1 hx).1
      refine (withGo p os lim F i j ob 14 _ (fun w' => HeapS w' p (putC os ⟨1, i, j⟩ v) lim F ∧ Chg F w w') w h hi hj run14 ?_).mono ?_
      · intro w' hc
        have h' := h.chg hc (fun _ _ e => e)
        have ho : ObAt w' ob := by obtain ⟨lv, hb, hl, ho, _⟩ := h'; exact ho ob (List.mem_of_getElem? hi)
        refine (store1 ob j v bq bv w' ho hj (hc.cell (cell_of_blk hq rfl) (fun e => e)) (hc.blk hv (fun e => e))).mono ?_
        rintro e w2 ⟨rfl, h1, h2⟩
        obtain ⟨h3, h4⟩ := h'.put v hi h1 h2
        exact ⟨rfl, by simpa [putC, hg] using h3, (hc.mono (fun _ _ e => e.elim)).trans h4⟩
      · rintro e w2 ⟨rfl, h1, h2⟩
        exact ⟨by simp [stC, hg], h1, h2⟩
  · refine (withNull _ q _ w hk).mono ?_
    rintro e w1 ⟨rfl, hc⟩
    have hg : getC os q = none := by simp [getC, hk]
    exact ⟨by simp [stC, hk], by simpa [putC, hg] using h.chg hc (fun _ _ e => e), hc.mono (fun _ _ e => e.elim)⟩

set_option maxHeartbeats 1000000 in
theorem storeS (p : Nat) (os : List Ob) (lim : Nat) (F : Nat → Prop) (q v : Cv) (w : World) (h : HeapS w p os lim F) :
    Calls Try.prog 8 #[.pointer (some ⟨p, 0, none⟩), .agg #[.int .u8 q.k, .int .i64 q.o, .int .i64 q.n], .agg #[.int .u8 v.k, .int .i64 v.o, .int .i64 v.n]] w (StorePost w p os lim F q v) := by
  have hC := Lib.hid (((Chg.refl (fun _ => False) w).alloc (.cells #[.int .u8 q.k, .int .i64 q.o, .int .i64 q.n] 24)).alloc (.cells #[.int .u8 v.k, .int .i64 v.o, .int .i64 v.n] 24))
  have h0 := h.chg (hC.out) (fun _ _ e => e)
  have hx := blk_alloc (blk_alloc_new w (.cells #[.int .u8 q.k, .int .i64 q.o, .int .i64 q.n] 24)) (.cells #[.int .u8 v.k, .int .i64 v.o, .int .i64 v.n] 24)
  have hy := blk_alloc_new (w.alloc (.cells #[.int .u8 q.k, .int .i64 q.o, .int .i64 q.n] 24)) (.cells #[.int .u8 v.k, .int .i64 v.o, .int .i64 v.n] 24)
  rw [World.size_alloc] at hy
  have hx0 := cell_of_blk (i := 0) hx rfl
  have hx1 := cell_of_blk (i := 1) hx rfl
  have hx2 := cell_of_blk (i := 2) hx rfl
  have HW := Lib.hid (withStore p os lim F q v _ _ _ h0 hx hy)
  clear hx hy h0 h
  go_enter Try.func8, Try.ntmps8
  go_wp2_with (go_at_call 13; refine HW.out.mono ?_; rintro e w1 ⟨rfl, h1, h2⟩)
  go_ret
  exact ⟨rfl, h1, (hC.out.mono (fun _ _ e => e.elim)).trans h2⟩
end Go.Proofs.Ytcecllgmhpbehaa
