/- gnomonref01.Has, Add; QueuePicks. -/
import Derived.Test.YtjkcoooijfbfpaaQ9
namespace Go.Proofs.Ytjkcoooijfbfpaa
open Go.RowKit Go.Shelf

set_option maxHeartbeats 1000000 in
theorem hasR (v : Value) (xs : List Int) (G : Nat → Prop) (i : Int) (w : World) (h : Rd w v 1 xs.length (xs.map (.int .i64)) G) :
    Calls Try.prog 16 #[v, .int .i64 i] w fun e w' => e = .returned (.bool (decide (i ∈ xs))) ∧ w = w' := by
  obtain ⟨_, hmax, ad, cap, rfl, _, _, _, h7⟩ := h
  have H7 := Lib.hid h7
  clear h7
  unfold maxLen at hmax
  go_enter Try.func16, Try.ntmps16
  go_wp2
  go_loop [5] (fun iv => ∃ k : Nat, k ≤ xs.length ∧ iv = .int .i64 k ∧ Hid (i ∉ xs.take k)) (fun iv => xs.length - (intOf iv).toNat)
  case atStart => exact ⟨0, Nat.zero_le _, rfl, Lib.hid (by simp)⟩
  case round =>
    obtain ⟨k, hk, rfl, hn⟩ := hrel
    by_cases hlt : k < xs.length
    · obtain ⟨b, off, rfl, hG, hcl⟩ : ∃ b off, ad = some ⟨b, off, none⟩ ∧ _ ∧ _ := H7.out.resolve_left (by omega)
      obtain ⟨x, hx⟩ : ∃ x, x = xs[k] := ⟨_, rfl⟩
      have hcx : w.cell? ⟨b, off + k, none⟩ = some (.int .i64 x) := hcl k (.int .i64 x) (by simp [hlt, hx])
      have Hx := Lib.hid hx
      have hb1 : (0 : Int) ≤ (k : Int) := by omega
      have hb2 : (k : Int) < xs.length := by omega
      have hb3 : (xs.length : Int) ≤ 9223372036854775807 := by omega
      clear hcl hx
      by_cases hxi : x = i
      · have hd : (x == i) = true := by simpa using hxi
        have Hxi := Lib.hid hxi
        clear hxi
        go_wp2
        go_ret
        have : i ∈ xs := by rw [← Hxi.out, Hx.out]; exact List.getElem_mem hlt
        exact ⟨by simp [this], rfl⟩
      · have hd : (x == i) = false := by simpa using hxi
        have Hxi := Lib.hid hxi
        clear hxi
        go_wp2
        go_round
        case rel =>
          refine ⟨k + 1, by omega, by go_num, Lib.hid ?_⟩
          rw [List.take_succ_eq_append_getElem hlt, ← Hx.out, List.mem_append]
          rintro (h | h)
          · exact hn.out h
          · simp at h; exact Hxi.out h.symm
        case measure => simp [intOf]; omega
    · have hd : decide ((k : Int) < (xs.length : Int)) = false := by simp; omega
      have Hno : Hid (i ∉ xs) := Lib.hid (by have := hn.out; rwa [List.take_of_length_le (by omega)] at this)
      clear hn
      go_wp2
      go_ret
      exact ⟨by simp [Hno.out], rfl⟩

theorem tw_of (i : Int) : ∀ (l : List Int) (k : Nat), k ≤ l.length → (∀ x ∈ l.take k, x < i) → (∀ x, l[k]? = some x → i ≤ x) → l.takeWhile (fun x => decide (x < i)) = l.take k ∧ l.dropWhile (fun x => decide (x < i)) = l.drop k
  | [], k, _, _, _ => by simp
  | y :: l, 0, _, _, h2 => by
    have := h2 y (by simp)
    have hy : decide (y < i) = false := by simp; omega
    simp [List.takeWhile_cons, List.dropWhile_cons, hy]
  | y :: l, k + 1, hk, h1, h2 => by
    have hy : decide (y < i) = true := by have := h1 y (by simp); simpa using this
    obtain ⟨g1, g2⟩ := tw_of i l k (by simpa using hk) (fun x hx => h1 x (by simp [hx])) (fun x hx => h2 x (by simpa using hx))
    simp [List.takeWhile_cons, List.dropWhile_cons, hy, g1, g2]

theorem Rd.drop {w : World} {b off c n : Nat} {xs : List Value} {G : Nat → Prop} (h : Rd w (.slice (some ⟨b, off, none⟩) n c) 1 n xs G) (k : Nat) (hk : k ≤ n) :
    Rd w (.slice (some (if k = c then ⟨b, off, none⟩ else ⟨b, off + k, none⟩)) (n - k) (c - k)) 1 (n - k) (xs.drop k) G := by
  obtain ⟨hlen, hmax, ad', cap, he, h4, h5, h6, h7⟩ := h
  obtain ⟨rfl, _, rfl⟩ := Value.slice.inj he
  refine ⟨by rw [List.length_drop]; omega, by omega, _, _, rfl, by omega, by omega, (fun e => by cases e), ?_⟩
  by_cases hn : n - k = 0
  · exact .inl hn
  · right
    obtain ⟨b', off', he, hg, hc⟩ := h7.resolve_left (by omega)
    simp only [Option.some.injEq, Addr.mk.injEq] at he
    obtain ⟨rfl, rfl, _⟩ := he
    rw [if_neg (by omega)]
    refine ⟨b, off + k, rfl, hg, fun j u hu => ?_⟩
    have := hc (k + j) u (by rwa [List.getElem?_drop] at hu)
    rwa [show off + (k + j) = off + k + j by omega] at this

theorem Rd.take2 {w : World} {ad : Option Addr} {n c : Nat} {xs : List Value} {G : Nat → Prop} (h : Rd w (.slice ad n c) 1 n xs G) (k : Nat) (hk : k ≤ n) : Rd w (.slice ad k c) 1 k (xs.take k) G := by
  obtain ⟨hlen, hmax, ad', cap, he, h4, h5, h6, h7⟩ := h
  obtain ⟨rfl, _, rfl⟩ := Value.slice.inj he
  refine ⟨by rw [List.length_take]; omega, by omega, ad, c, rfl, by omega, h5, fun e => by have := h6 e; omega, ?_⟩
  rcases h7 with rfl | ⟨b, off, he, hg, hc⟩
  · exact .inl (by omega)
  · refine .inr ⟨b, off, he, hg, fun j u hu => hc j u ?_⟩
    rw [List.getElem?_take] at hu
    split at hu
    · exact hu
    · cases hu

def Plain (v : Value) : Prop := v = .slice none 0 0 ∨ ∃ b off n c, v = .slice (some ⟨b, off, none⟩) n c
theorem plain_own {w : World} {base : Nat} {e : TypeId} {size : Nat} {v : Value} {n : Nat} {xs : List Value} (h : w.ownsRow base e size v n xs) : Plain v := by
  rcases h.2 with ⟨rfl, _⟩ | ⟨g, cap, cur, rfl, _⟩
  · exact .inl rfl
  · exact .inr ⟨g, 0, n, cap, rfl⟩

def AddRPost (w : World) (xs : List Int) (G : Nat → Prop) (i : Int) (e : Ending) (w' : World) : Prop :=
  ∃ v', e = .returned v' ∧ Rd w' v' 1 (insS i xs).length ((insS i xs).map (.int .i64)) (fun b => G b ∨ w.heap.size ≤ b) ∧ Chg (fun _ => False) w w' ∧ Plain v'

set_option maxHeartbeats 4000000 in
theorem addR_new (b off cap : Nat) (xs : List Int) (G : Nat → Prop) (i : Int) (w : World) (h : Rd w (.slice (some ⟨b, off, none⟩) xs.length cap) 1 xs.length (xs.map (.int .i64)) G) (hl : xs.length ≤ 1000) (hi : 0 ≤ i) (hm : i ∉ xs) :
    Calls Try.prog 13 #[.slice (some ⟨b, off, none⟩) xs.length cap, .int .i64 i] w (AddRPost w xs G i) := by
  have HR := Lib.hid h
  have HH := Lib.hid (hasR _ xs G i w h)
  have hcap : xs.length ≤ cap ∧ cap ≤ maxLen := by obtain ⟨_, _, _, _, he, h4, h5, _⟩ := h; obtain ⟨_, _, rfl⟩ := Value.slice.inj he; exact ⟨h4, h5⟩
  obtain ⟨hc1, hc2⟩ := hcap
  unfold maxLen at hc2
  have hd : decide (i < 0) = false := by simp; omega
  have Hno : Hid (¬ (i < 0 ∨ i ∈ xs)) := Lib.hid (fun h => h.elim (fun h => by omega) hm)
  have Hm := Lib.hid hm
  clear h hm
  go_enter Try.func13, Try.ntmps13
  go_wp2_with (go_at_call 16; refine HH.out.mono ?_; rintro e w' ⟨rfl, rfl⟩; rw [decide_eq_false Hm.out])
  go_loop [5] (fun iv => ∃ k : Nat, k ≤ xs.length ∧ iv = .int .i64 k ∧ Hid (∀ x ∈ xs.take k, x < i)) (fun iv => xs.length - (intOf iv).toNat)
  case atStart => exact ⟨0, Nat.zero_le _, rfl, Lib.hid (by simp)⟩
  case round =>
    obtain ⟨k, hk, rfl, Hlt⟩ := hrel
    have HT : Hid (Rd w (.slice (some ⟨b, off, none⟩) k cap) 1 k ((xs.take k).map (.int .i64)) G) := Lib.hid (by rw [List.map_take]; exact HR.out.take2 k hk)
    have hb1 : (0 : Int) ≤ (k : Int) := by omega
    have hb4 : (k : Int) ≤ (xs.length : Int) := by omega
    have hb5 : (k : Int) ≤ (cap : Int) := by omega
    by_cases hlt : k < xs.length
    · obtain ⟨x, hx⟩ : ∃ x, x = xs[k] := ⟨_, rfl⟩
      have hcx : w.cell? ⟨b, off + k, none⟩ = some (.int .i64 x) := by
        obtain ⟨_, _, _, _, he, _, _, _, h7⟩ := HR.out
        obtain ⟨rfl, _, rfl⟩ := Value.slice.inj he
        obtain ⟨b', off', he, _, hcl⟩ := h7.resolve_left (by omega)
        simp only [Option.some.injEq, Addr.mk.injEq] at he
        obtain ⟨rfl, rfl, _⟩ := he
        exact hcl k (.int .i64 x) (by simp [hlt, hx])
      have Hx := Lib.hid hx
      have hb2 : (k : Int) < xs.length := by omega
      have hb3 : (xs.length : Int) ≤ 1000 := by omega
      clear hx
      by_cases hxi : x < i
      · have hd1 : decide (x < i) = true := by simpa using hxi
        have Hxi := Lib.hid hxi
        clear hxi
        go_wp2_with fail
        go_round
        case rel =>
          refine ⟨k + 1, by omega, by go_num, Lib.hid fun y hy => ?_⟩
          rw [List.take_succ_eq_append_getElem hlt, ← Hx.out, List.mem_append] at hy
          rcases hy with h | h
          · exact Hlt.out y h
          · simp at h; rw [h]; exact Hxi.out
        case measure => simp [intOf]; omega
      · have hd1 : decide (x < i) = false := by simpa using hxi
        have Hge : Hid (∀ y, xs[k]? = some y → i ≤ y) := Lib.hid fun y hy => by rw [List.getElem?_eq_getElem hlt, ← Hx.out] at hy; cases hy; omega
        clear hxi
        go_wp2_with (at_builtin; refine wp_append_rd rfl _ _ 27 rfl 3 _ 1 8 Try.underlying27 info3 rfl (by decide) _ 0 [] rfl (World.ownsRow_nil _ _ _ _) _ k _ G rfl HT.out (one_int _) ?_ ?_ ?_)
        · unfold maxLen; omega
        · omega
        intro v1 w1 o1 C1 g1
        obtain ⟨ad1, cp1, rfl⟩ := slice_own o1
        have O1 := Lib.hid (fun o' => owns_chg o1 (chg_alloc (fun _ => False) w1 o') (fun _ _ e => e))
        have HC1 := Lib.hid C1
        have HL1 := Lib.hid o1.lt
        have HG1 := Lib.hid g1
        clear o1 C1 g1
        go_wp2_with (at_builtin; refine wp_append_at rfl _ _ 27 rfl 3 _ 1 8 Try.underlying27 info3 rfl (by decide) _ _ _ rfl (O1.out _) w1.heap.size 1 1 #[.int .i64 i] 3 (0, 0) rfl (blk_alloc_new _ _) [.int .i64 i] rfl rfl (by simp [Value.oneCell']) (by decide) ?_ ?_ ?_)
        · unfold maxLen; omega
        · omega
        intro gg cap2 w2 o2 C2 g2
        have O2 := Lib.hid o2
        have hC1 : Chg (fun _ => False) w w1 := HC1.out.mono (fun _ _ e => by simp [Value.ownBlock] at e)
        have hC2 : Chg (fun _ => False) w w2 := ((hC1.alloc _).then' C2 (fun b hb e => by
          rcases HG1.out b e with h | h
          · simp [Value.ownBlock] at h
          · omega))
        have HC2 := Lib.hid hC2
        have hrd := HR.out.drop k (by omega)
        have HD := Lib.hid (hrd.chg hC2 (fun _ _ e => e))
        have hg2 : w.heap.size ≤ gg := by
          have := hC1.size
          rcases g2 with h | h
          · rcases HG1.out gg h with h | h
            · simp [Value.ownBlock] at h
            · exact h
          · first | omega | (simp at h; omega)
        have HG2 := Lib.hid hg2
        clear o2 C2 g2 hC1 hC2 hrd hg2
        by_cases hkc : k = cap
        · subst hkc
          obtain rfl : k = xs.length := by omega
          rw [if_pos rfl, Nat.sub_self] at HD
          go_wp2_with (at_builtin; refine wp_append_rd rfl _ _ 27 rfl 3 _ 1 8 Try.underlying27 info3 rfl (by decide) _ _ _ rfl O2.out _ _ _ G rfl HD.out ?_ ?_ ?_ ?_)
          · intro u hu; exact one_int xs u (List.mem_of_mem_drop hu)
          · unfold maxLen; omega
          · omega
          intro v3 w3 o3 C3 g3
          have e1 : insS i xs = xs.take xs.length ++ i :: xs.drop xs.length := by rw [insS, if_neg (by have := Hno.out; omega), (tw_of i xs xs.length (by omega) Hlt.out Hge.out).1, (tw_of i xs xs.length (by omega) Hlt.out Hge.out).2]
          have e2 : (insS i xs).length = xs.length + 1 + (xs.length - xs.length) := by rw [e1, List.length_append, List.length_cons, List.length_take, List.length_drop]; omega
          have e3 : (insS i xs).map (Value.int .i64) = (xs.map (Value.int .i64)).take xs.length ++ .int .i64 i :: (xs.map (Value.int .i64)).drop xs.length := by rw [e1, List.map_append, List.map_cons, List.map_take, List.map_drop]
          have O3 : Hid (w3.ownsRow 0 3 1 v3 (insS i xs).length ((insS i xs).map (.int .i64))) := Lib.hid (by rw [e2, e3]; simpa using o3)
          have HC3 := Lib.hid C3
          have HG3 := Lib.hid g3
          clear e1 e2 e3 o3 C3 g3
          go_wp2_with fail
          go_ret
          refine ⟨v3, rfl, (Rd.of_owns O3.out).mono (G' := fun b => G b ∨ w.heap.size ≤ b) (fun b hb => ?_), HC2.out.then' HC3.out (fun b hb e => by have := HG2.out; simp only [Value.ownBlock, Option.some.injEq] at e; omega), plain_own O3.out⟩
          rcases HG3.out b hb with h | h
          · simp only [Value.ownBlock, Option.some.injEq] at h; subst h; exact Or.inr HG2.out
          · have := HC2.out.size; exact Or.inr (by omega)
        · have hk1 : ((k : Int) == (cap : Int)) = false := by simp; omega
          have hk2 : (k == cap) = false := by simp; omega
          rw [if_neg hkc] at HD
          go_wp2_with (at_builtin; refine wp_append_rd rfl _ _ 27 rfl 3 _ 1 8 Try.underlying27 info3 rfl (by decide) _ _ _ rfl O2.out _ _ _ G rfl HD.out ?_ ?_ ?_ ?_)
          · intro u hu; exact one_int xs u (List.mem_of_mem_drop hu)
          · unfold maxLen; omega
          · omega
          intro v3 w3 o3 C3 g3
          have e1 : insS i xs = xs.take k ++ i :: xs.drop k := by rw [insS, if_neg (by have := Hno.out; omega), (tw_of i xs k (by omega) Hlt.out Hge.out).1, (tw_of i xs k (by omega) Hlt.out Hge.out).2]
          have e2 : (insS i xs).length = k + 1 + (xs.length - k) := by rw [e1, List.length_append, List.length_cons, List.length_take, List.length_drop]; omega
          have e3 : (insS i xs).map (Value.int .i64) = (xs.map (Value.int .i64)).take k ++ .int .i64 i :: (xs.map (Value.int .i64)).drop k := by rw [e1, List.map_append, List.map_cons, List.map_take, List.map_drop]
          have O3 : Hid (w3.ownsRow 0 3 1 v3 (insS i xs).length ((insS i xs).map (.int .i64))) := Lib.hid (by rw [e2, e3]; simpa using o3)
          have HC3 := Lib.hid C3
          have HG3 := Lib.hid g3
          clear e1 e2 e3 o3 C3 g3
          go_wp2_with fail
          go_ret
          refine ⟨v3, rfl, (Rd.of_owns O3.out).mono (G' := fun b => G b ∨ w.heap.size ≤ b) (fun b hb => ?_), HC2.out.then' HC3.out (fun b hb e => by have := HG2.out; simp only [Value.ownBlock, Option.some.injEq] at e; omega), plain_own O3.out⟩
          rcases HG3.out b hb with h | h
          · simp only [Value.ownBlock, Option.some.injEq] at h; subst h; exact Or.inr HG2.out
          · have := HC2.out.size; exact Or.inr (by omega)
    · have hd1 : decide ((k : Int) < (xs.length : Int)) = false := by simp; omega
      have Hge : Hid (∀ y, xs[k]? = some y → i ≤ y) := Lib.hid fun y hy => by rw [List.getElem?_eq_none (by omega)] at hy; cases hy
      go_wp2_with (at_builtin; refine wp_append_rd rfl _ _ 27 rfl 3 _ 1 8 Try.underlying27 info3 rfl (by decide) _ 0 [] rfl (World.ownsRow_nil _ _ _ _) _ k _ G rfl HT.out (one_int _) ?_ ?_ ?_)
      · unfold maxLen; omega
      · omega
      intro v1 w1 o1 C1 g1
      obtain ⟨ad1, cp1, rfl⟩ := slice_own o1
      have O1 := Lib.hid (fun o' => owns_chg o1 (chg_alloc (fun _ => False) w1 o') (fun _ _ e => e))
      have HC1 := Lib.hid C1
      have HL1 := Lib.hid o1.lt
      have HG1 := Lib.hid g1
      clear o1 C1 g1
      go_wp2_with (at_builtin; refine wp_append_at rfl _ _ 27 rfl 3 _ 1 8 Try.underlying27 info3 rfl (by decide) _ _ _ rfl (O1.out _) w1.heap.size 1 1 #[.int .i64 i] 3 (0, 0) rfl (blk_alloc_new _ _) [.int .i64 i] rfl rfl (by simp [Value.oneCell']) (by decide) ?_ ?_ ?_)
      · unfold maxLen; omega
      · omega
      intro gg cap2 w2 o2 C2 g2
      have O2 := Lib.hid o2
      have hC1 : Chg (fun _ => False) w w1 := HC1.out.mono (fun _ _ e => by simp [Value.ownBlock] at e)
      have hC2 : Chg (fun _ => False) w w2 := ((hC1.alloc _).then' C2 (fun b hb e => by
        rcases HG1.out b e with h | h
        · simp [Value.ownBlock] at h
        · omega))
      have HC2 := Lib.hid hC2
      have hrd := HR.out.drop k (by omega)
      have HD := Lib.hid (hrd.chg hC2 (fun _ _ e => e))
      have hg2 : w.heap.size ≤ gg := by
        have := hC1.size
        rcases g2 with h | h
        · rcases HG1.out gg h with h | h
          · simp [Value.ownBlock] at h
          · exact h
        · first | omega | (simp at h; omega)
      have HG2 := Lib.hid hg2
      clear o2 C2 g2 hC1 hC2 hrd hg2
      by_cases hkc : k = cap
      · subst hkc
        obtain rfl : k = xs.length := by omega
        rw [if_pos rfl, Nat.sub_self] at HD
        go_wp2_with (at_builtin; refine wp_append_rd rfl _ _ 27 rfl 3 _ 1 8 Try.underlying27 info3 rfl (by decide) _ _ _ rfl O2.out _ _ _ G rfl HD.out ?_ ?_ ?_ ?_)
        · intro u hu; exact one_int xs u (List.mem_of_mem_drop hu)
        · unfold maxLen; omega
        · omega
        intro v3 w3 o3 C3 g3
        have e1 : insS i xs = xs.take xs.length ++ i :: xs.drop xs.length := by rw [insS, if_neg (by have := Hno.out; omega), (tw_of i xs xs.length (by omega) Hlt.out Hge.out).1, (tw_of i xs xs.length (by omega) Hlt.out Hge.out).2]
        have e2 : (insS i xs).length = xs.length + 1 + (xs.length - xs.length) := by rw [e1, List.length_append, List.length_cons, List.length_take, List.length_drop]; omega
        have e3 : (insS i xs).map (Value.int .i64) = (xs.map (Value.int .i64)).take xs.length ++ .int .i64 i :: (xs.map (Value.int .i64)).drop xs.length := by rw [e1, List.map_append, List.map_cons, List.map_take, List.map_drop]
        have O3 : Hid (w3.ownsRow 0 3 1 v3 (insS i xs).length ((insS i xs).map (.int .i64))) := Lib.hid (by rw [e2, e3]; simpa using o3)
        have HC3 := Lib.hid C3
        have HG3 := Lib.hid g3
        clear e1 e2 e3 o3 C3 g3
        go_wp2_with fail
        go_ret
        refine ⟨v3, rfl, (Rd.of_owns O3.out).mono (G' := fun b => G b ∨ w.heap.size ≤ b) (fun b hb => ?_), HC2.out.then' HC3.out (fun b hb e => by have := HG2.out; simp only [Value.ownBlock, Option.some.injEq] at e; omega), plain_own O3.out⟩
        rcases HG3.out b hb with h | h
        · simp only [Value.ownBlock, Option.some.injEq] at h; subst h; exact Or.inr HG2.out
        · have := HC2.out.size; exact Or.inr (by omega)
      · have hk1 : ((k : Int) == (cap : Int)) = false := by simp; omega
        have hk2 : (k == cap) = false := by simp; omega
        rw [if_neg hkc] at HD
        go_wp2_with (at_builtin; refine wp_append_rd rfl _ _ 27 rfl 3 _ 1 8 Try.underlying27 info3 rfl (by decide) _ _ _ rfl O2.out _ _ _ G rfl HD.out ?_ ?_ ?_ ?_)
        · intro u hu; exact one_int xs u (List.mem_of_mem_drop hu)
        · unfold maxLen; omega
        · omega
        intro v3 w3 o3 C3 g3
        have e1 : insS i xs = xs.take k ++ i :: xs.drop k := by rw [insS, if_neg (by have := Hno.out; omega), (tw_of i xs k (by omega) Hlt.out Hge.out).1, (tw_of i xs k (by omega) Hlt.out Hge.out).2]
        have e2 : (insS i xs).length = k + 1 + (xs.length - k) := by rw [e1, List.length_append, List.length_cons, List.length_take, List.length_drop]; omega
        have e3 : (insS i xs).map (Value.int .i64) = (xs.map (Value.int .i64)).take k ++ .int .i64 i :: (xs.map (Value.int .i64)).drop k := by rw [e1, List.map_append, List.map_cons, List.map_take, List.map_drop]
        have O3 : Hid (w3.ownsRow 0 3 1 v3 (insS i xs).length ((insS i xs).map (.int .i64))) := Lib.hid (by rw [e2, e3]; simpa using o3)
        have HC3 := Lib.hid C3
        have HG3 := Lib.hid g3
        clear e1 e2 e3 o3 C3 g3
        go_wp2_with fail
        go_ret
        refine ⟨v3, rfl, (Rd.of_owns O3.out).mono (G' := fun b => G b ∨ w.heap.size ≤ b) (fun b hb => ?_), HC2.out.then' HC3.out (fun b hb e => by have := HG2.out; simp only [Value.ownBlock, Option.some.injEq] at e; omega), plain_own O3.out⟩
        rcases HG3.out b hb with h | h
        · simp only [Value.ownBlock, Option.some.injEq] at h; subst h; exact Or.inr HG2.out
        · have := HC2.out.size; exact Or.inr (by omega)
end Go.Proofs.Ytjkcoooijfbfpaa
