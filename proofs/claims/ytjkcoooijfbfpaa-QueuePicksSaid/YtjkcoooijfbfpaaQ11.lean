/- QueuePicks. -/
import Derived.Test.YtjkcoooijfbfpaaQ10
namespace Go.Proofs.Ytjkcoooijfbfpaa
open Go.RowKit Go.Shelf

def addAll (s : Qs) (l : List Int) : Qs := l.foldl (fun s x => s.add x) s
theorem addAll_snoc (s : Qs) (l : List Int) (x : Int) : addAll s (l ++ [x]) = (addAll s l).add x := by simp [addAll]
theorem add_ps (s : Qs) (x : Int) : (s.add x).ps = s.ps ∧ (s.add x).tk = s.tk ∧ (s.add x).bs.length = s.bs.length := by
  unfold Qs.add; split <;> simp
theorem add_cnt (s : Qs) (x : Int) : (s.add x).cnt ≤ s.cnt + 1 := by
  unfold Qs.add
  split
  · rename_i h
    have hf : s.bs[x.toNat]? = some false := by
      unfold Qs.may at h
      simp only [Bool.and_eq_true, decide_eq_true_eq, Bool.not_eq_true'] at h
      obtain ⟨⟨h0, h1⟩, h2⟩ := h
      have hl : x.toNat < s.bs.length := by omega
      rw [List.getElem?_eq_getElem hl] at h2 ⊢
      simp at h2; rw [h2]
    have := count_set hf
    show (s.bs.set x.toNat true).count true ≤ s.bs.count true + 1
    omega
  · omega
theorem add_has (s : Qs) (x y : Int) (h : (s.add x).has y = true) : s.has y = true ∨ y = x := by
  unfold Qs.add at h
  split at h
  · rename_i hm
    unfold Qs.may at hm
    simp only [Bool.and_eq_true, decide_eq_true_eq, Bool.not_eq_true'] at hm
    unfold Qs.has at h ⊢
    simp only [Bool.and_eq_true, decide_eq_true_eq, List.getElem?_set] at h ⊢
    obtain ⟨h0, h1⟩ := h
    split at h1
    · right; omega
    · exact .inl ⟨h0, h1⟩
  · exact .inl h
theorem addAll_spec (s : Qs) (hs : s.cnt = 0) (hh : ∀ x, s.has x = false) (l : List Int) :
    (addAll s l).ps = s.ps ∧ (addAll s l).tk = s.tk ∧ (addAll s l).bs.length = s.bs.length ∧ (addAll s l).cnt ≤ l.length ∧ ∀ x, (addAll s l).has x = true → x ∈ l := by
  induction l using snoc_rec with
  | nil => exact ⟨rfl, rfl, rfl, by simp [addAll, hs], fun x hx => by rw [show addAll s [] = s by rfl, hh] at hx; cases hx⟩
  | snoc l y ih =>
    obtain ⟨h1, h2, h3, h4, h5⟩ := ih
    rw [addAll_snoc]
    obtain ⟨g1, g2, g3⟩ := add_ps (addAll s l) y
    refine ⟨g1.trans h1, g2.trans h2, g3.trans h3, ?_, fun x hx => ?_⟩
    · have := add_cnt (addAll s l) y; simp; omega
    · rcases add_has _ _ _ hx with h | h
      · simp [h5 x h]
      · simp [h]

theorem next_true (s : Qs) (h : 0 < s.cnt) : s.bs[s.next]? = some true := by
  have hp : s.pick < s.cnt := by unfold Qs.pick; split <;> omega
  have hl : s.pick < (prs s.bs s.bs.length).length := by rw [prs_all]; exact hp
  obtain ⟨_, _, g3, _⟩ := prs_get _ _ _ _ (List.getElem?_eq_getElem hl)
  unfold Qs.next
  rw [List.getElem?_eq_getElem hl]
  exact g3
theorem took_cnt (s : Qs) (h : 0 < s.cnt) : s.took.cnt + 1 = s.cnt := count_unset (next_true s h)
theorem took_has (s : Qs) (x : Int) (h : s.took.has x = true) : s.has x = true := by
  unfold Qs.took Qs.has at *
  simp only [Bool.and_eq_true, decide_eq_true_eq, List.getElem?_set] at h ⊢
  obtain ⟨h0, h1⟩ := h
  split at h1
  · split at h1 <;> simp at h1
  · exact ⟨h0, h1⟩

set_option maxHeartbeats 1000000 in
theorem addR_nil (i : Int) (w : World) (hi : 0 ≤ i) :
    Calls Try.prog 13 #[.slice none 0 0, .int .i64 i] w (AddRPost w [] (fun _ => False) i) := by
  have HH := Lib.hid (hasR (.slice none 0 0) [] (fun _ => False) i w (by exact ⟨rfl, Nat.zero_le _, none, 0, rfl, Nat.le_refl _, Nat.zero_le _, fun _ => ⟨rfl, rfl⟩, .inl rfl⟩))
  have hd : decide (i < 0) = false := by simp; omega
  have Hi := Lib.hid hi
  clear hi
  go_enter Try.func13, Try.ntmps13
  go_wp2_with (go_at_call 16; refine HH.out.mono ?_; rintro e w' ⟨rfl, rfl⟩; rw [show decide (i ∈ ([] : List Int)) = false by simp])
  have HN := Lib.hid (fun w : World => (⟨rfl, Nat.zero_le _, none, 0, rfl, Nat.le_refl _, Nat.zero_le _, fun _ => ⟨rfl, rfl⟩, .inl rfl⟩ : Rd w (.slice none 0 0) 1 0 [] (fun _ => False)))
  go_loop [5] (fun iv => iv = .int .i64 0) (fun _ => 0)
  case atStart => rfl
  case round =>
    obtain rfl := hrel
    go_wp2_with (at_builtin; refine wp_append_rd rfl _ _ 27 rfl 3 _ 1 8 Try.underlying27 info3 rfl (by decide) _ 0 [] rfl (World.ownsRow_nil _ _ _ _) _ 0 [] _ rfl (HN.out _) ?_ ?_ ?_ ?_)
    try any_goals (first | (unfold maxLen; omega) | omega | (intro u hu; cases hu; done))
    intro v1 w1 o1 C1 g1
    obtain ⟨ad1, cp1, rfl⟩ := slice_own o1
    have O1 := Lib.hid (fun o' => owns_chg o1 (chg_alloc (fun _ => False) w1 o') (fun _ _ e => e))
    have HC1 := Lib.hid C1
    have HG1 := Lib.hid g1
    clear o1 C1 g1
    go_wp2_with (at_builtin; refine wp_append_at rfl _ _ 27 rfl 3 _ 1 8 Try.underlying27 info3 rfl (by decide) _ _ _ rfl (O1.out _) w1.heap.size 1 1 #[.int .i64 i] 3 (0, 0) rfl (blk_alloc_new _ _) [.int .i64 i] rfl rfl (by simp [Value.oneCell']) (by decide) ?_ ?_ ?_)
    · unfold maxLen; omega
    · omega
    intro gg cap2 w2 o2 C2 g2
    have hC1 : Chg (fun _ => False) w w1 := HC1.out.mono (fun _ _ e => by simp [Value.ownBlock] at e)
    have hC2 : Chg (fun _ => False) w w2 := ((hC1.alloc _).then' C2 (fun b hb e => by
      rcases HG1.out b e with h | h
      · simp [Value.ownBlock] at h
      · omega))
    have hg2 : w.heap.size ≤ gg := by
      have := hC1.size
      rcases g2 with h | h
      · rcases HG1.out gg h with h | h
        · simp [Value.ownBlock] at h
        · exact h
      · first | omega | (simp at h; omega)
    have HG2 := Lib.hid hg2
    have HC2 := Lib.hid hC2
    have e1 : insS i [] = [i] := by rw [insS, if_neg (by have := Hi.out; simp; omega)]; rfl
    have O2 : Hid (w2.ownsRow 0 3 1 (.slice (some ⟨gg, 0, none⟩) 1 cap2) (insS i []).length ((insS i []).map (.int .i64))) := Lib.hid (by rw [e1]; simpa using o2)
    clear o2 C2 g2 hC1 hC2 hg2 e1
    have hcp : 1 ≤ cap2 := by
      obtain ⟨_, _, ad', c', he, h4, _⟩ := Rd.of_owns O2.out
      injection he with _ h5 h6
      subst h6; omega
    go_wp2_with fail
    go_ret
    refine ⟨.slice (some ⟨gg, 0, none⟩) 1 cap2, rfl, (Rd.of_owns O2.out).mono (G' := fun b => False ∨ w.heap.size ≤ b) (fun b hb => ?_), HC2.out, plain_own O2.out⟩
    simp only [Value.ownBlock, Option.some.injEq] at hb
    subst hb
    exact Or.inr HG2.out

set_option maxHeartbeats 1000000 in
theorem addR_old (ad : Option Addr) (cap : Nat) (xs : List Int) (G : Nat → Prop) (i : Int) (w : World) (h : Rd w (.slice ad xs.length cap) 1 xs.length (xs.map (.int .i64)) G) (hi : i < 0 ∨ i ∈ xs) (hpl : Plain (.slice ad xs.length cap)) :
    Calls Try.prog 13 #[.slice ad xs.length cap, .int .i64 i] w (AddRPost w xs G i) := by
  have he : insS i xs = xs := by rw [insS, if_pos hi]
  have HP : Hid (AddRPost w xs G i (.returned (.slice ad xs.length cap)) w) := Lib.hid ⟨_, rfl, by rw [he]; exact h.mono (fun b hb => .inl hb), Chg.refl _ _, hpl⟩
  have HH := Lib.hid (hasR _ xs G i w h)
  clear he h hpl
  by_cases h0 : i < 0
  · have hd : decide (i < 0) = true := by simpa using h0
    go_enter Try.func13, Try.ntmps13
    go_wp2_with fail
    go_ret
    exact HP.out
  · have hd : decide (i < 0) = false := by simpa using h0
    have hm := Lib.hid (hi.resolve_left h0)
    clear hi
    go_enter Try.func13, Try.ntmps13
    go_wp2_with (go_at_call 16; refine HH.out.mono ?_; rintro e w' ⟨rfl, rfl⟩; rw [decide_eq_true hm.out])
    go_ret
    exact HP.out

theorem addR (v : Value) (xs : List Int) (G : Nat → Prop) (i : Int) (w : World) (h : Rd w v 1 xs.length (xs.map (.int .i64)) G) (hl : xs.length ≤ 1000) (hpl : Plain v) :
    Calls Try.prog 13 #[v, .int .i64 i] w (AddRPost w xs G i) := by
  have h' := h
  obtain ⟨_, _, ad, cap, rfl, _, _, hn, h7⟩ := h'
  by_cases ho : i < 0 ∨ i ∈ xs
  · exact addR_old ad cap xs G i w h ho hpl
  · rcases hpl with hpl | ⟨b, off, n, c, hpl⟩
    · injection hpl with h1 h2 h3
      subst h1
      subst h3
      obtain rfl : xs = [] := by simpa using h2
      refine (addR_nil i w (by omega)).mono ?_
      rintro e w' ⟨v', rfl, hr, hc, hp⟩
      exact ⟨v', rfl, hr.mono (fun b hb => hb.elim (fun e => e.elim) Or.inr), hc, hp⟩
    · injection hpl with h1 h2 h3
      subst h1
      exact addR_new b off cap xs G i w h hl (by omega) (fun e => ho (.inr e))
end Go.Proofs.Ytjkcoooijfbfpaa
