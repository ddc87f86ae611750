/- IdsPlays: the walk. -/
import Derived.Test.YtlbppfdkcaoijaaR1
import Derived.Test.YtlbppfdkcaoijaaFam
import Derived.Test.YtlbppfdkcaoijaaRds
import Derived.Deep.RegionHeld3
namespace Go.Proofs.Ytlbppfdkcaoijaa
open Go.RowKit

/-- An act: what is asked, a number, a key. -/
structure ActD where
  act : Int
  n : Int
  k : ByteArray
def ActD.cells (x : ActD) : List Value := [.int .i64 x.act, .int .i64 x.n, .string x.k]

/-- The two tables are alike, with at most N keys. -/
def PlayRel (w : World) (pt pr N : Nat) (wr : World) : Prop :=
  ∃ ys Ft Fr, TabS wr pt ys Ft ∧ RefT wr pr ys Fr ∧ (∀ b, Ft b → ¬ Fr b) ∧ Chg (fun _ => False) w wr ∧ (∀ b, Ft b → w.heap.size ≤ b) ∧ (∀ b, Fr b → w.heap.size ≤ b) ∧ ys.length ≤ N

/-- The first loop. -/
def InRel (w : World) (pt pr : Nat) (iv : Value) (xs : List ByteArray) (k : Nat) (wr : World) : Prop :=
  ∃ Ft Fr zs, TabS wr pt (tAll xs) Ft ∧ RefT wr pr (tAll (xs.take k)) Fr ∧ (∀ b, Ft b → ¬ Fr b) ∧ Chg (fun _ => False) w wr ∧ (∀ b, Ft b → w.heap.size ≤ b) ∧ (∀ b, Fr b → w.heap.size ≤ b) ∧
    wr.ownsRow 0 9 1 iv xs.length zs ∧ (∀ b, iv.ownBlock = some b → w.heap.size ≤ b ∧ ¬ Ft b ∧ ¬ Fr b)

/-- In the midst of 't.Id(x.K) != w.Id(x.K)'. -/
def PlayC (w : World) (pt pr bx : Nat) (K : ByteArray) (ys : List ByteArray) (c1 c2 : Bool) (w' : World) : Prop :=
  ∃ Ft Fr, TabS w' pt (if c1 then tAdd K ys else ys) Ft ∧ RefT w' pr (if c2 then tAdd K ys else ys) Fr ∧ (∀ b, Ft b → ¬ Fr b) ∧ Chg (fun _ => False) w w' ∧ (∀ b, Ft b → w.heap.size ≤ b) ∧ (∀ b, Fr b → w.heap.size ≤ b) ∧
    w'.cell? ⟨bx, 2, none⟩ = some (.string K) ∧ (∀ b, Ft b → b ≠ bx) ∧ (∀ b, Fr b → b ≠ bx)

theorem PlayC.t {w : World} {pt pr bx : Nat} {K : ByteArray} {ys : List ByteArray} {c2 : Bool} {w' : World} (h : PlayC w pt pr bx K ys false c2 w') (hn : ys.length < 1000000) :
    Calls Try.prog 13 #[.pointer (some ⟨pt, 0, none⟩), .string K] w' fun e w'' => e = .returned (.int .i64 (tNo K ys : Nat)) ∧ PlayC w pt pr bx K ys true c2 w'' := by
  obtain ⟨Ft, Fr, hT, hr, hd, hC, hFt, hFr, hc, h1, h2⟩ := h
  simp only [Bool.false_eq_true, if_false] at hT
  refine (idS pt ys Ft K w' hT hn).mono ?_
  rintro e w'' ⟨rfl, F', hT', hC', hF'⟩
  have hbx := World.block_lt_of_cell? w' _ hc
  have hs := hC.size
  refine ⟨rfl, F', Fr, by simpa using hT', hr.chg hC' (fun b hb hb' => hd b hb' hb), ?_, hC.then' hC' (fun b hb hb' => by have := hFt b hb'; omega), ?_, hFr, hC'.cell hc (fun e => h1 bx e rfl), ?_, h2⟩
  · intro b hb hb'
    rcases hF' b hb with h | h
    · exact hd b h hb'
    · have := hr.lt b hb'; omega
  · intro b hb
    rcases hF' b hb with h | h
    · exact hFt b h
    · omega
  · rintro b hb rfl
    rcases hF' b hb with h | h
    · exact h1 b h rfl
    · simp at hbx; omega

theorem PlayC.r {w : World} {pt pr bx : Nat} {K : ByteArray} {ys : List ByteArray} {c1 : Bool} {w' : World} (h : PlayC w pt pr bx K ys c1 false w') (hn : ys.length < 1000000) :
    Calls Try.prog 18 #[.pointer (some ⟨pr, 0, none⟩), .string K] w' fun e w'' => e = .returned (.int .i64 (tNo K ys : Nat)) ∧ PlayC w pt pr bx K ys c1 true w'' := by
  obtain ⟨Ft, Fr, hT, hr, hd, hC, hFt, hFr, hc, h1, h2⟩ := h
  simp only [Bool.false_eq_true, if_false] at hr
  refine (rid pr ys Fr K w' hr hn).mono ?_
  rintro e w'' ⟨rfl, F', hr', hC', hF'⟩
  have hbx := World.block_lt_of_cell? w' _ hc
  have hs := hC.size
  refine ⟨rfl, Ft, F', hT.chg hC' (fun b hb hb' => hd b hb hb'), by simpa using hr', ?_, hC.then' hC' (fun b hb hb' => by have := hFr b hb'; omega), hFt, ?_, hC'.cell hc (fun e => h2 bx e rfl), h1, ?_⟩
  · intro b hb hb'
    rcases hF' b hb' with h | h
    · exact hd b hb h
    · have := hT.lt b hb; omega
  · intro b hb
    rcases hF' b hb with h | h
    · exact hFr b h
    · omega
  · rintro b hb rfl
    rcases hF' b hb with h | h
    · exact h2 b h rfl
    · simp at hbx; omega

theorem PlayC.cell {w : World} {pt pr bx : Nat} {K : ByteArray} {ys : List ByteArray} {c1 c2 : Bool} {w' : World} (h : PlayC w pt pr bx K ys c1 c2 w') : w'.cell? ⟨bx, 2, none⟩ = some (.string K) := by
  obtain ⟨Ft, Fr, hT, hr, hd, hC, hFt, hFr, hc, h1, h2⟩ := h
  exact hc
theorem PlayC.drew {w : World} {pt pr bx : Nat} {K : ByteArray} {ys : List ByteArray} {c1 c2 : Bool} {w' : World} (h : PlayC w pt pr bx K ys c1 c2 w') : PlayC w pt pr bx K ys c1 c2 w'.drew := by
  obtain ⟨Ft, Fr, hT, hr, hd, hC, hFt, hFr, hc, h1, h2⟩ := h
  exact ⟨Ft, Fr, hT.chg ((Chg.refl (fun _ => False) w').drew) (fun _ _ e => e), hr.chg ((Chg.refl (fun _ => False) w').drew) (fun _ _ e => e), hd, hC.drew, hFt, hFr, hc, h1, h2⟩

/-- While the keys that were told are written over. -/
def KvRel (w : World) (pt pr N : Nat) (kv : Value) (n : Nat) (wr : World) : Prop :=
  ∃ ys Ft Fr zz, TabS wr pt ys Ft ∧ RefT wr pr ys Fr ∧ (∀ b, Ft b → ¬ Fr b) ∧ Chg (fun _ => False) w wr ∧ (∀ b, Ft b → w.heap.size ≤ b) ∧ (∀ b, Fr b → w.heap.size ≤ b) ∧ ys.length ≤ N ∧
    wr.ownsRow 0 9 1 kv n zz ∧ (∀ b, kv.ownBlock = some b → w.heap.size ≤ b ∧ ¬ Ft b ∧ ¬ Fr b)
theorem KvRel.play {w : World} {pt pr N : Nat} {kv : Value} {n : Nat} {wr : World} (h : KvRel w pt pr N kv n wr) : PlayRel w pt pr N wr := by
  obtain ⟨ys, Ft, Fr, zz, h1, h2, h3, h4, h5, h6, h7, _⟩ := h
  exact ⟨ys, Ft, Fr, h1, h2, h3, h4, h5, h6, h7⟩
theorem KvRel.drewN {w : World} {pt pr N : Nat} {kv : Value} {n : Nat} {wr : World} (h : KvRel w pt pr N kv n wr) (m : Nat) : KvRel w pt pr N kv n (wr.drewN m) := by
  obtain ⟨ys, Ft, Fr, zz, h1, h2, h3, h4, h5, h6, h7, h8, h9⟩ := h
  have hd := chg_drewN (fun _ => False) wr m
  exact ⟨ys, Ft, Fr, zz, h1.chg hd (fun _ _ e => e), h2.chg hd (fun _ _ e => e), h3, h4.drewN _, h5, h6, h7, owns_chg h8 hd (fun _ _ e => e), h9⟩
theorem KvRel.store {w : World} {pt pr N : Nat} {kv : Value} {n : Nat} {wr : World} (h : KvRel w pt pr N kv n wr) {q : Nat} (hq : q < n) :
    ∃ g cap, kv = .slice (some ⟨g, 0, none⟩) n cap ∧ (∃ old, wr.cell? ⟨g, q, none⟩ = some old) ∧ wr.frozen? ⟨g, q, none⟩ = false ∧ ∀ u, KvRel w pt pr N kv n (wr.setCell ⟨g, q, none⟩ u) := by
  obtain ⟨ys, Ft, Fr, zz, h1, h2, h3, h4, h5, h6, h7, h8, h9⟩ := h
  obtain ⟨g, cap, rfl, _, hold, hfz, hset⟩ := owns_at h8 hq
  obtain ⟨g1, g2, g3⟩ := h9 g rfl
  refine ⟨g, cap, rfl, hold, hfz, fun u => ⟨ys, Ft, Fr, _, h1.chg (chg_setCell _ _ _ _) (fun b hb e => g2 (e ▸ hb)), h2.chg (chg_setCell _ _ _ _) (fun b hb e => g3 (e ▸ hb)), h3, ?_, h5, h6, h7, hset u, h9⟩⟩
  exact h4.then' (chg_setCell wr g q u) (fun b hb e => by subst e; omega)

set_option maxHeartbeats 400000 in
theorem plays_big (n : Nat) (cap : Nat) (ad : Option Addr) (n' : Nat) (cap' : Nat) (ad' : Option Addr) (w : World) (hn : 200 < n ∨ 200 < n') :
    Calls Try.prog 4 #[.slice ad n cap, .slice ad' n' cap'] w fun e w' => e = .returned (.bool true) ∧ Chg (fun _ => False) w w' := by
  by_cases h : 200 < n
  · have h1 : decide ((200 : Int) < (n : Int)) = true := by simp; omega
    go_enter Try.func4, Try.ntmps4
    go_wp2_with (go_at_call 8; refine (wakesS _).mono ?_; rintro e w1 ⟨rfl, hc⟩)
    go_ret
    exact ⟨rfl, by assumption⟩
  · have h1 : decide ((200 : Int) < (n : Int)) = false := by simp; omega
    have h2 : decide ((200 : Int) < (n' : Int)) = true := by simp; omega
    go_enter Try.func4, Try.ntmps4
    go_wp2_with (go_at_call 8; refine (wakesS _).mono ?_; rintro e w1 ⟨rfl, hc⟩)
    go_ret
    exact ⟨rfl, by assumption⟩

set_option maxHeartbeats 1000000 in
set_option maxRecDepth 100000 in
theorem plays_small (v v' : Value) (xs : List ByteArray) (l : List ActD) (w : World) (h : Rd w v 1 xs.length (xs.map .string) (fun b => b < w.heap.size)) (h' : Rd w v' 3 l.length (l.flatMap ActD.cells) (fun b => b < w.heap.size))
    (hn : xs.length ≤ 200) (hn' : l.length ≤ 200) :
    Calls Try.prog 4 #[v, v'] w fun e w' => e = .returned (.bool true) ∧ Chg (fun _ => False) w w' := by
  have hrd := Lib.hid h
  have hrd' := Lib.hid h'
  obtain ⟨hlen, hmax, ad, cap, rfl, h4, h5, h6, h7⟩ := h
  obtain ⟨hlen', hmax', ad', cap', rfl, h4', h5', h6', h7'⟩ := h'
  clear h4 h5 h6 hlen hmax h4' h5' h6' hlen' hmax'
  have h1 : decide ((200 : Int) < (xs.length : Int)) = false := by simp; omega
  have h2 : decide ((200 : Int) < (l.length : Int)) = false := by simp; omega
  have hle := tAll_len xs
  go_enter Try.func4, Try.ntmps4
  go_wp2_with (at_builtin; refine wp_append_rd rfl _ _ 36 rfl 9 _ 1 16 Try.underlying36 info9 rfl (by decide) (.slice none 0 0) 0 [] rfl (World.ownsRow_nil _ _ _ _) _ xs.length _ _ rfl hrd.out (one_string xs) ?_ ?_ ?_)
  · unfold maxLen; omega
  · omega
  intro iv w1 hi1 hC1 hi2
  have hC1' := hC1.mono (T := fun _ => False) (fun k _ e => by simp [Value.ownBlock] at e)
  go_wp2_with fail
  refine (newS _ xs _ _ (Rd.of_owns hi1) (by omega)).mono ?_
  rintro e w2 ⟨pt, Ft, rfl, hT, hC2, hFt⟩
  go_wp2_with fail
  go_loopw [8] (fun i wr => ∃ k : Nat, k ≤ xs.length ∧ i = .int .i64 k ∧ InRel w pt w2.heap.size iv xs k wr) (fun i _ => xs.length - (intOf i).toNat)
  case atStart =>
    refine ⟨0, Nat.zero_le _, rfl, Ft, _, _, hT.chg (chg_alloc (fun _ => False) _ _) (fun _ _ e => e), ⟨.slice none 0 0, blk_alloc_new _ _, World.ownsRow_nil _ _ _ _, by simp [Value.ownBlock], rfl⟩, ?_, (hC1'.trans hC2).alloc _, ?_, ?_, owns_chg hi1 (hC2.alloc _) (fun _ _ e => e), ?_⟩
    · rintro b hb (rfl | h)
      · have := hT.lt _ hb; omega
      · simp [Value.ownBlock] at h
    · intro b hb; have := hFt b hb; have := hC1.size; omega
    · rintro b (rfl | h)
      · have := hC1.size; have := hC2.size; omega
      · simp [Value.ownBlock] at h
    · intro b hb
      have hlt := (hi1.lt b hb).2
      refine ⟨(hi2 b hb).resolve_left (by simp [Value.ownBlock]), fun e => ?_, ?_⟩
      · have := hFt b e; omega
      · rintro (rfl | h)
        · have := hC2.size; omega
        · simp [Value.ownBlock] at h
  case round =>
    obtain ⟨j, hj, rfl, hR⟩ := hrel
    have HR := Lib.hid hR
    clear hR
    by_cases hlt : j < xs.length
    · obtain ⟨b, off, rfl, hG, hcl⟩ : ∃ b off, ad = some ⟨b, off, none⟩ ∧ _ ∧ _ := h7.resolve_left (by omega)
      obtain ⟨Ft, Fr, zs, hT, hr, hd, hC, hFt, hFr, hi, hib⟩ := HR.out
      have hc := hC.cell (hcl j (.string xs[j]) (by simp [hlt])) (fun e => e)
      have hb1 : (0 : Int) ≤ (j : Int) := by omega
      have hb2 : (j : Int) < xs.length := by omega
      have hid := Lib.hid (rid w2.heap.size _ Fr xs[j] wr hr (by have := tAll_len (xs.take j); simp at this; omega))
      obtain ⟨g, icap, rfl, _, _⟩ := owns_at hi hlt
      clear hcl h7
      go_wp2_with fail
      refine hid.out.mono ?_
      rintro e w3 ⟨rfl, Fr', hr', hC3, hFr'⟩
      have hi3 := owns_chg hi hC3 (fun k hk => (hib k hk).2.2)
      obtain ⟨g', icap', he, _, ⟨old, hold⟩, hfz, hset⟩ := owns_at hi3 hlt
      simp only [Value.slice.injEq, Option.some.injEq, Addr.mk.injEq, and_true, true_and] at he
      obtain ⟨rfl, rfl⟩ := he
      have Hset := Lib.hid hset
      clear hset hc
      go_wp2
      go_roundw
      case rel =>
        have hgg := hib g rfl
        have hset' := chg_setCell w3 g j (.string ⟨#[115, 112, 111, 105, 108, 116]⟩)
        have hF' : ∀ b, Fr' b → w.heap.size ≤ b ∧ ¬ Ft b ∧ b ≠ g := by
          intro b hb
          rcases hFr' b hb with h | h
          · exact ⟨hFr b h, fun e => hd b e h, by rintro rfl; exact hgg.2.2 h⟩
          · have := hC.size
            exact ⟨by omega, fun e => by have := hT.lt b e; omega, by rintro rfl; have := (hi.lt b rfl).2; omega⟩
        refine ⟨j + 1, by omega, by go_num, Ft, Fr', _, (hT.chg hC3 (fun b hb hb' => hd b hb hb')).chg hset' (fun b hb e => hgg.2.1 (e ▸ hb)), ?_, fun b hb hb' => (hF' b hb').2.1 hb, ?_, hFt, fun b hb => (hF' b hb).1, Hset.out _, ?_⟩
        · rw [tAll_take xs j hlt]
          exact hr'.chg hset' (fun b hb e => (hF' b hb).2.2 e)
        · exact (hC.then' hC3 (fun b hb hb' => by have := hFr b hb'; omega)).then' hset' (fun b hb e => by subst e; omega)
        · intro b hb
          simp only [Value.ownBlock, Option.some.injEq] at hb
          subst hb
          exact ⟨hgg.1, hgg.2.1, fun e => (hF' g e).2.2 rfl⟩
      case measure => simp [intOf]; omega
    · have hje : j = xs.length := by omega
      have HP : Hid (PlayRel w pt w2.heap.size 200 wr) := by
        obtain ⟨Ft, Fr, zs, hT, hr, hd, hC, hFt, hFr, hi, hib⟩ := HR.out
        rw [hje, List.take_length] at hr
        exact ⟨_, Ft, Fr, hT, hr, hd, hC, hFt, hFr, by omega⟩
      clear HR
      have Hje := Lib.hid hje
      clear hje hT hFt hC1 hC1' hC2 hi1 hi2 hle
      obtain ⟨wo, rfl⟩ : ∃ wo : World, wo = wr := ⟨_, rfl⟩
      generalize w2.heap.size = pr at *
      go_wp2_with fail
      go_loopw [9] (fun i wr => ∃ k : Nat, k ≤ l.length ∧ i = .int .i64 k ∧ PlayRel w pt pr (200 + k) wr) (fun i _ => l.length - (intOf i).toNat)
      case atStart => exact ⟨0, Nat.zero_le _, rfl, HP⟩
      case round =>
        obtain ⟨k, hk, rfl, hR⟩ := hrel
        have HR := Lib.hid hR
        clear hR HP
        by_cases hlt : k < l.length
        · obtain ⟨b, off, rfl, hG, hcl⟩ : ∃ b off, ad' = some ⟨b, off, none⟩ ∧ _ ∧ _ := h7'.resolve_left (by omega)
          obtain ⟨ys, Ft, Fr, hT, hr, hd, hC, hFt, hFr, hlen⟩ := HR.out
          obtain ⟨x, hx⟩ : ∃ x, x = l[k] := ⟨_, rfl⟩
          have hcx : ∀ j u, x.cells[j]? = some u → wr.cell? ⟨b, off + (k * 3 + j), none⟩ = some u := by
            intro j u hu
            refine hC.cell (hcl _ _ ?_) (fun e => e)
            have hj3 : j < 3 := (List.getElem?_eq_some_iff.1 hu).1
            rw [flat_get ActD.cells (fun _ => rfl) l k hlt j hj3, ← hx]
            exact hu
          have hc0 : wr.cell? ⟨b, off + k * 3, none⟩ = some (.int .i64 x.act) := hcx 0 _ rfl
          have hc1 : wr.cell? ⟨b, off + k * 3 + 1, none⟩ = some (.int .i64 x.n) := hcx 1 _ rfl
          have hc2 : wr.cell? ⟨b, off + k * 3 + 2, none⟩ = some (.string x.k) := hcx 2 _ rfl
          have hb1 : (0 : Int) ≤ (k : Int) := by omega
          have hb2 : (k : Int) < l.length := by omega
          clear hcl h7' hcx hx
          by_cases ha : x.act = 0
          · have ha' : (x.act == 0) = true := by simp [ha]
            have hPC : PlayC w pt pr wr.heap.size x.k ys false false (wr.alloc (.cells #[.int .i64 x.act, .int .i64 x.n, .string x.k] 42)) := by
              refine ⟨Ft, Fr, hT.chg (chg_alloc (fun _ => False) _ _) (fun _ _ e => e), hr.chg (chg_alloc (fun _ => False) _ _) (fun _ _ e => e), hd, hC.alloc _, hFt, hFr, cell_of_blk (blk_alloc_new _ _) rfl, ?_, ?_⟩
              · rintro b hb rfl; have := hT.lt _ hb; omega
              · rintro b hb rfl; have := hr.lt _ hb; omega
            have HPC := Lib.hid hPC
            clear hPC ha
            go_wp2_with fail
            refine wp_region_fam_lit (by kernel_rfl) (by kernel_rfl) (fun L w' => PlayC w pt pr wr.heap.size x.k ys (L 3) (L 7) w') (fun L hL => by rw [hL 3 (by decide), hL 7 (by decide)]; exact HPC.out.drew) ?_
            iterate 3
              refine wpFam_val (wanted_none rfl) (fun L w' hh => hh) ?_
              apply Exists.intro
              refine ⟨fun L w' _ _ hh => ?_, ?_⟩
              · (have hcc := hh.cell; go_simp; rfl)
              go_simp
            refine wpFam_call rfl 13 #[.pointer (some ⟨pt, 0, none⟩), .string x.k] _ (fun w' => ?_) (fun L w' _ hL hh => (PlayC.t (by rw [hL] at hh; exact hh) (by omega))) ?_
            · go_simp
            go_simp
            iterate 3
              refine wpFam_val (wanted_none rfl) (fun L w' hh => hh) ?_
              apply Exists.intro
              refine ⟨fun L w' _ _ hh => ?_, ?_⟩
              · (have hcc := hh.cell; go_simp; rfl)
              go_simp
            refine wpFam_call rfl 18 #[.pointer (some ⟨pr, 0, none⟩), .string x.k] _ (fun w' => ?_) (fun L w' _ hL hh => (PlayC.r (by rw [hL] at hh; exact hh) (by omega))) ?_
            · go_simp
            go_simp
            refine wpFam_val (wanted_none rfl) (fun L w' hh => hh) ?_
            apply Exists.intro
            refine ⟨fun L w' _ _ hh => ?_, ?_⟩
            · go_simp; rfl
            go_simp
            refine wpFam_end ?_
            intro L w5 hL hh
            rw [hL 3 (by decide), hL 7 (by decide)] at hh
            have HP : Hid (PlayRel w pt pr (200 + (k + 1)) w5) := by
              obtain ⟨Ft, Fr, hT, hr, hd, hC, hFt, hFr, hc, h1, h2⟩ := hh
              refine ⟨tAdd x.k ys, Ft, Fr, by simpa using hT, by simpa using hr, hd, hC, hFt, hFr, ?_⟩
              have := tAdd_len x.k ys
              omega
            clear hh HPC hL
            go_wp2_with fail
            obtain ⟨zs, Gt, Gr, gT, gr, gd, gC, gFt, gFr, glen⟩ := HP.out
            refine (keysS pt zs Gt _ gT (by omega)).mono ?_
            rintro e w6 ⟨kv, rfl, hkv, hC6⟩
            have gT6 := gT.chg hC6 (fun _ _ e => e)
            have gr6 := gr.chg hC6 (fun _ _ e => e)
            have gC6 := gC.trans hC6
            have hgs := gC.size
            have HV : Hid (KvRel w pt pr (200 + (k + 1)) kv zs.length w6) := by
              refine ⟨zs, Gt, Gr, _, gT6, gr6, gd, gC6, gFt, gFr, glen, owns_base hkv (Nat.zero_le _), fun b hb => ?_⟩
              have := (hkv.lt b hb).1
              exact ⟨by omega, fun e => by have := gT.lt b e; omega, fun e => by have := gr.lt b e; omega⟩
            have HL : Hid (∀ n, Calls Try.prog 16 #[.pointer (some ⟨pt, 0, none⟩)] (w6.drewN n) fun e w' => e = .returned (.int .i64 zs.length) ∧ w6.drewN n = w') := Lib.hid fun n => lenS pt zs Gt _ (gT6.chg (chg_drewN (fun _ => False) _ n) (fun _ _ e => e))
            obtain ⟨lv, hlb, hlo, hlp, hGr⟩ := gr6
            have HS : Hid (∀ n, Calls Try.prog 24 #[kv, lv] (w6.drewN n) fun e w' => e = .returned (.bool true) ∧ ∃ m, w' = (w6.drewN n).drewN m) := Lib.hid fun n => by
              have := sameS kv lv zs zs _ _ (w6.drewN n) ((Rd.of_owns hkv).chg (chg_drewN (fun _ => False) _ n) (fun _ _ e => e)) ((Rd.of_owns hlo).chg (chg_drewN (fun _ => False) _ n) (fun _ _ e => e))
              rw [decide_eq_true (rfl : zs = zs)] at this
              exact this
            have hlc := cell_of_blk (i := 0) hlb rfl
            obtain ⟨lad, lcap, rfl⟩ := slice_of_owns hlo
            obtain ⟨kad, kcap, rfl⟩ := slice_of_owns hkv
            clear hC hd hT hr hFt hFr hlen gT gr gd gFt gFr hkv hlo hlp hGr hlb gT6 gC hC6 HP hc0 hc1 hc2
            go_wp2_with fail
            go_quiet ((first | (go_at_call 16; with_reducible exact quiet_left (HL.out _)) | (go_at_call 24; with_reducible exact quiet_add (HS.out _))))
            go_wp2_with fail
            clear hlc HL HS
            go_loopw [20] (fun i w7 => ∃ q : Nat, q ≤ zs.length ∧ i = .int .i64 q ∧ KvRel w pt pr (200 + (k + 1)) (.slice kad zs.length kcap) zs.length w7) (fun i _ => zs.length - (intOf i).toNat)
            case atStart => 
              exact ⟨0, Nat.zero_le _, rfl, HV.out.drewN _⟩
            case round =>
              obtain ⟨q, hq, rfl, hR3⟩ := hrel
              have HR3 := Lib.hid hR3
              clear hR3
              by_cases hlt3 : q < zs.length
              · obtain ⟨g, cap3, he, ⟨old, hold⟩, hfz, hst⟩ := HR3.out.store hlt3
                simp only [Value.slice.injEq, true_and] at he
                obtain ⟨rfl, rfl⟩ := he
                have Hst := Lib.hid hst
                clear hst
                have hb3 : (0 : Int) ≤ (q : Int) := by omega
                have hb4 : (q : Int) < zs.length := by omega
                go_wp2_with fail
                go_roundw
                case rel => exact ⟨q + 1, by omega, by go_num, Hst.out _⟩
                case measure => simp [intOf]; omega
              · have HP3 := Lib.hid HR3.out.play
                clear HR3 HV
                go_wp2_with fail
                go_roundw
                case rel => exact ⟨k + 1, by omega, by go_num, HP3.out⟩
                case measure => simp [intOf]; omega
          · have ha' : (x.act == 0) = false := by simp [ha]
            have hT' := hT.chg (chg_alloc (fun _ => False) wr (.cells #[.int .i64 x.act, .int .i64 x.n, .string x.k] 42)) (fun _ _ e => e)
            have hr' := hr.chg (chg_alloc (fun _ => False) wr (.cells #[.int .i64 x.act, .int .i64 x.n, .string x.k] 42)) (fun _ _ e => e)
            have HP : Hid (PlayRel w pt pr (200 + (k + 1)) (wr.alloc (.cells #[.int .i64 x.act, .int .i64 x.n, .string x.k] 42))) := ⟨ys, Ft, Fr, hT', hr', hd, hC.alloc _, hFt, hFr, by omega⟩
            have HF := Lib.hid (show ∃ c b, found (tIx x.k ys) = .tuple #[.int .i64 c, .bool b] from ⟨_, _, rfl⟩)
            have HK := Lib.hid (show ∃ s c, keyOut ys x.n = .tuple #[.string s, .int .i64 c] by unfold keyOut; split <;> exact ⟨_, _, rfl⟩)
            clear ha
            by_cases ha1 : x.act = 1
            · have ha2 : (x.act == 1) = true := by simp [ha1]
              clear ha1
              go_wp2_with fail
              refine (findS pt ys Ft x.k _ hT').mono ?_
              rintro e w5 ⟨rfl, hw5⟩
              subst hw5
              obtain ⟨c, bb, hf⟩ := HF.out
              rw [hf]
              have Hf := Lib.hid hf
              clear hf
              go_wp2_with fail
              refine (rfind pr ys Fr x.k _ hr').mono ?_
              rintro e w5 ⟨rfl, hw5⟩
              subst hw5
              rw [Hf.out]
              go_wp2_with fail
              generalize wr.alloc (.cells #[.int .i64 x.act, .int .i64 x.n, .string x.k] 42) = w5 at *
              clear hT' hr' HF HK
              obtain ⟨zs, Gt, Gr, gT, gr, gd, gC, gFt, gFr, glen⟩ := HP.out
              refine (keysS pt zs Gt _ gT (by omega)).mono ?_
              rintro e w6 ⟨kv, rfl, hkv, hC6⟩
              have gT6 := gT.chg hC6 (fun _ _ e => e)
              have gr6 := gr.chg hC6 (fun _ _ e => e)
              have gC6 := gC.trans hC6
              have hgs := gC.size
              have HV : Hid (KvRel w pt pr (200 + (k + 1)) kv zs.length w6) := by
                refine ⟨zs, Gt, Gr, _, gT6, gr6, gd, gC6, gFt, gFr, glen, owns_base hkv (Nat.zero_le _), fun b hb => ?_⟩
                have := (hkv.lt b hb).1
                exact ⟨by omega, fun e => by have := gT.lt b e; omega, fun e => by have := gr.lt b e; omega⟩
              have HL : Hid (∀ n, Calls Try.prog 16 #[.pointer (some ⟨pt, 0, none⟩)] (w6.drewN n) fun e w' => e = .returned (.int .i64 zs.length) ∧ w6.drewN n = w') := Lib.hid fun n => lenS pt zs Gt _ (gT6.chg (chg_drewN (fun _ => False) _ n) (fun _ _ e => e))
              obtain ⟨lv, hlb, hlo, hlp, hGr⟩ := gr6
              have HS : Hid (∀ n, Calls Try.prog 24 #[kv, lv] (w6.drewN n) fun e w' => e = .returned (.bool true) ∧ ∃ m, w' = (w6.drewN n).drewN m) := Lib.hid fun n => by
                have := sameS kv lv zs zs _ _ (w6.drewN n) ((Rd.of_owns hkv).chg (chg_drewN (fun _ => False) _ n) (fun _ _ e => e)) ((Rd.of_owns hlo).chg (chg_drewN (fun _ => False) _ n) (fun _ _ e => e))
                rw [decide_eq_true (rfl : zs = zs)] at this
                exact this
              have hlc := cell_of_blk (i := 0) hlb rfl
              obtain ⟨lad, lcap, rfl⟩ := slice_of_owns hlo
              obtain ⟨kad, kcap, rfl⟩ := slice_of_owns hkv
              clear hC hd hT hr hFt hFr hlen gT gr gd gFt gFr hkv hlo hlp hGr hlb gT6 gC hC6 HP hc0 hc1 hc2
              go_wp2_with fail
              go_quiet ((first | (go_at_call 16; with_reducible exact quiet_left (HL.out _)) | (go_at_call 24; with_reducible exact quiet_add (HS.out _))))
              go_wp2_with fail
              clear hlc HL HS
              go_loopw [20] (fun i w7 => ∃ q : Nat, q ≤ zs.length ∧ i = .int .i64 q ∧ KvRel w pt pr (200 + (k + 1)) (.slice kad zs.length kcap) zs.length w7) (fun i _ => zs.length - (intOf i).toNat)
              case atStart => 
                exact ⟨0, Nat.zero_le _, rfl, HV.out.drewN _⟩
              case round =>
                obtain ⟨q, hq, rfl, hR3⟩ := hrel
                have HR3 := Lib.hid hR3
                clear hR3
                by_cases hlt3 : q < zs.length
                · obtain ⟨g, cap3, he, ⟨old, hold⟩, hfz, hst⟩ := HR3.out.store hlt3
                  simp only [Value.slice.injEq, true_and] at he
                  obtain ⟨rfl, rfl⟩ := he
                  have Hst := Lib.hid hst
                  clear hst
                  have hb3 : (0 : Int) ≤ (q : Int) := by omega
                  have hb4 : (q : Int) < zs.length := by omega
                  go_wp2_with fail
                  go_roundw
                  case rel => exact ⟨q + 1, by omega, by go_num, Hst.out _⟩
                  case measure => simp [intOf]; omega
                · have HP3 := Lib.hid HR3.out.play
                  clear HR3 HV
                  go_wp2_with fail
                  go_roundw
                  case rel => exact ⟨k + 1, by omega, by go_num, HP3.out⟩
                  case measure => simp [intOf]; omega
            · have ha2 : (x.act == 1) = false := by simp [ha1]
              clear ha1
              go_wp2_with fail
              refine (keyS pt ys Ft x.n _ hT').mono ?_
              rintro e w5 ⟨rfl, hw5⟩
              subst hw5
              obtain ⟨c, bb, hf⟩ := HK.out
              rw [hf]
              have Hf := Lib.hid hf
              clear hf
              go_wp2_with fail
              refine (rkey pr ys Fr x.n _ hr').mono ?_
              rintro e w5 ⟨rfl, hw5⟩
              subst hw5
              rw [Hf.out]
              go_wp2_with fail
              generalize wr.alloc (.cells #[.int .i64 x.act, .int .i64 x.n, .string x.k] 42) = w5 at *
              clear hT' hr' HF HK
              obtain ⟨zs, Gt, Gr, gT, gr, gd, gC, gFt, gFr, glen⟩ := HP.out
              refine (keysS pt zs Gt _ gT (by omega)).mono ?_
              rintro e w6 ⟨kv, rfl, hkv, hC6⟩
              have gT6 := gT.chg hC6 (fun _ _ e => e)
              have gr6 := gr.chg hC6 (fun _ _ e => e)
              have gC6 := gC.trans hC6
              have hgs := gC.size
              have HV : Hid (KvRel w pt pr (200 + (k + 1)) kv zs.length w6) := by
                refine ⟨zs, Gt, Gr, _, gT6, gr6, gd, gC6, gFt, gFr, glen, owns_base hkv (Nat.zero_le _), fun b hb => ?_⟩
                have := (hkv.lt b hb).1
                exact ⟨by omega, fun e => by have := gT.lt b e; omega, fun e => by have := gr.lt b e; omega⟩
              have HL : Hid (∀ n, Calls Try.prog 16 #[.pointer (some ⟨pt, 0, none⟩)] (w6.drewN n) fun e w' => e = .returned (.int .i64 zs.length) ∧ w6.drewN n = w') := Lib.hid fun n => lenS pt zs Gt _ (gT6.chg (chg_drewN (fun _ => False) _ n) (fun _ _ e => e))
              obtain ⟨lv, hlb, hlo, hlp, hGr⟩ := gr6
              have HS : Hid (∀ n, Calls Try.prog 24 #[kv, lv] (w6.drewN n) fun e w' => e = .returned (.bool true) ∧ ∃ m, w' = (w6.drewN n).drewN m) := Lib.hid fun n => by
                have := sameS kv lv zs zs _ _ (w6.drewN n) ((Rd.of_owns hkv).chg (chg_drewN (fun _ => False) _ n) (fun _ _ e => e)) ((Rd.of_owns hlo).chg (chg_drewN (fun _ => False) _ n) (fun _ _ e => e))
                rw [decide_eq_true (rfl : zs = zs)] at this
                exact this
              have hlc := cell_of_blk (i := 0) hlb rfl
              obtain ⟨lad, lcap, rfl⟩ := slice_of_owns hlo
              obtain ⟨kad, kcap, rfl⟩ := slice_of_owns hkv
              clear hC hd hT hr hFt hFr hlen gT gr gd gFt gFr hkv hlo hlp hGr hlb gT6 gC hC6 HP hc0 hc1 hc2
              go_wp2_with fail
              go_quiet ((first | (go_at_call 16; with_reducible exact quiet_left (HL.out _)) | (go_at_call 24; with_reducible exact quiet_add (HS.out _))))
              go_wp2_with fail
              clear hlc HL HS
              go_loopw [20] (fun i w7 => ∃ q : Nat, q ≤ zs.length ∧ i = .int .i64 q ∧ KvRel w pt pr (200 + (k + 1)) (.slice kad zs.length kcap) zs.length w7) (fun i _ => zs.length - (intOf i).toNat)
              case atStart => 
                exact ⟨0, Nat.zero_le _, rfl, HV.out.drewN _⟩
              case round =>
                obtain ⟨q, hq, rfl, hR3⟩ := hrel
                have HR3 := Lib.hid hR3
                clear hR3
                by_cases hlt3 : q < zs.length
                · obtain ⟨g, cap3, he, ⟨old, hold⟩, hfz, hst⟩ := HR3.out.store hlt3
                  simp only [Value.slice.injEq, true_and] at he
                  obtain ⟨rfl, rfl⟩ := he
                  have Hst := Lib.hid hst
                  clear hst
                  have hb3 : (0 : Int) ≤ (q : Int) := by omega
                  have hb4 : (q : Int) < zs.length := by omega
                  go_wp2_with fail
                  go_roundw
                  case rel => exact ⟨q + 1, by omega, by go_num, Hst.out _⟩
                  case measure => simp [intOf]; omega
                · have HP3 := Lib.hid HR3.out.play
                  clear HR3 HV
                  go_wp2_with fail
                  go_roundw
                  case rel => exact ⟨k + 1, by omega, by go_num, HP3.out⟩
                  case measure => simp [intOf]; omega
        · obtain ⟨zs, Gt, Gr, gT, gr, gd, gC, gFt, gFr, glen⟩ := HR.out
          obtain ⟨lv, hlb, hlo, hlp, hGr⟩ := gr
          have HKY : Hid (∀ n, Calls Try.prog 23 #[.pointer (some ⟨pt, 0, none⟩)] (wr.drewN n) fun e w' => ∃ v', e = .returned v' ∧ w'.ownsRow wr.heap.size 9 1 v' zs.length (zs.map .string) ∧ Chg (fun _ => False) (wr.drewN n) w') :=
            Lib.hid fun n => keysS pt zs Gt _ (gT.chg (chg_drewN (fun _ => False) _ n) (fun _ _ e => e)) (by omega)
          have Hlo := Lib.hid hlo
          have hlc := cell_of_blk (i := 0) hlb rfl
          obtain ⟨lad, lcap, rfl⟩ := slice_of_owns hlo
          clear gT gFt gFr hlo hlp hGr hlb HR gd
          go_wp2_with fail
          go_region_held3 (fun w' => w'.cell? ⟨pr, 0, none⟩ = some (.slice lad zs.length lcap)) (first | assumption | go_keep)
            (first
              | (go_at_call 23; refine (HKY.out 1).mono ?_; rintro e w6 ⟨kv, rfl, hkv, hC6⟩; have hlc6 := hC6.cell hlc (fun e => e))
              | (go_at_call 24; refine (sameS kv _ zs zs _ _ _ (Rd.of_owns hkv) (Rd.of_owns (owns_chg Hlo.out (((Chg.refl (fun _ => False) wr).drewN 1).trans hC6) (fun _ _ e => e)))).mono ?_; rintro e w7 ⟨rfl, n7, rfl⟩; rw [decide_eq_true (rfl : zs = zs)])
              | (go_at_call 8; refine (wakesS _).mono ?_; rintro e w8 ⟨rfl, hC8⟩; have hlc8 := hC8.cell (show (w6.drewN n7).cell? _ = _ from hlc6) (fun e => e)))
          all_goals go_wp2_with fail
          go_ret
          exact ⟨rfl, (((gC.drewN 1).trans hC6).drewN n7).trans hC8⟩

open Go.ChangeShapes Go.WideShapes in
theorem plays_reads {H : Type} {enc : TypeId × Value → H} (W : World) (base : Nat) {v0 v1 : Value} {d0 d1 : DataW H} {p0 p1 : List MemPlace}
    (o0 : Value.okWide Try.prog W .any base 36 v0) (h0 : DataW.Trod enc Try.prog W 0 (fun _ => true) true 36 v0 d0 p0)
    (o1 : Value.okWide Try.prog W .any base 37 v1) (h1 : DataW.Trod enc Try.prog W 0 (fun _ => true) true 37 v1 d1 p1) :
    Calls Try.prog 4 #[v0, v1] W fun e w' => e = .returned (.bool true) ∧ Chg (fun _ => False) W w' := by
  obtain ⟨xs, hr, _⟩ := rd_strings Try.underlying36 Try.underlying9 (by kernel_rfl) o0 h0
  obtain ⟨rows, hr1, hrows⟩ := rd_rows Try.underlying37 (show Try.prog.cellsOf 42 = 3 by kernel_rfl) (by decide) o1 h1
  obtain ⟨l, rfl⟩ : ∃ l : List ActD, rows = l.map ActD.cells := by
    refine exists_map rows (fun r hr => ?_)
    obtain ⟨hl, n, y, hy⟩ := hrows r hr
    obtain ⟨y0, y1, y2, m, _, _, g0, g1, g2⟩ := Go.Deep.trod_struct3 Try.underlying42 hy
    obtain ⟨a, e0, _, _⟩ := DataW.trod_int Try.underlying3 g0
    obtain ⟨b, e1, _, _⟩ := DataW.trod_int Try.underlying3 g1
    obtain ⟨c, e2, _, _⟩ := DataW.trod_string Try.underlying9 g2
    refine ⟨⟨a, b, c⟩, ?_⟩
    have c3 : Try.prog.cellsOf 3 = 1 := by kernel_rfl
    have c9 : Try.prog.cellsOf 9 = 1 := by kernel_rfl
    match r, hl with
    | [x0, x1, x2], _ =>
      simp [c3, c9] at e0 e1 e2
      simp [ActD.cells, e0, e1, e2]
  rw [List.length_map, ← List.flatMap_def] at hr1
  by_cases hn : xs.length ≤ 200 ∧ l.length ≤ 200
  · exact plays_small v0 v1 xs l W hr hr1 hn.1 hn.2
  · have hor : 200 < xs.length ∨ 200 < l.length := by omega
    obtain ⟨_, _, ad, cap, rfl, _⟩ := hr
    obtain ⟨_, _, ad', cap', rfl, _⟩ := hr1
    exact plays_big xs.length cap ad l.length cap' ad' W hor
end Go.Proofs.Ytlbppfdkcaoijaa
