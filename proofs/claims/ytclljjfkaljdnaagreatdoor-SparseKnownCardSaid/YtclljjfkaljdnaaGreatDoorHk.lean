/- The calls that are not looked into, at this program: their contracts. -/
import Derived.Test.YtclljjfkaljdnaaGreatDoorE23
import Derived.Test.YtclljjfkaljdnaaGreatDoorGv
import Derived.Test.YtclljjfkaljdnaaGreatDoorPT
import Derived.Test.YtclljjfkaljdnaaGreatDoorSH
import Derived.Lib.Strings
import Derived.Lib.Slices
import Derived.Lib.Walk
namespace Go.Proofs.YtclljjfkaljdnaaGreatDoor
open Go.RowKit Go.Maps Go.Sort Go.Shelf

theorem sortsZ (m : Nat) : AnyZI.SortsIn Go.Proofs.Tryz.prog Go.Proofs.Tryz.sortedA_ren Fence.wide m :=
  ⟨fun blk off cap ss W hH hblk hsz => callsIn_wide.2 (AnyM.slices_Sort_int Go.Proofs.Tryz.sortA blk off cap ss W hH hblk hsz),
   fun p cap W => callsIn_wide.2 (AnyM.slices_Sort_int_none Go.Proofs.Tryz.sortA p cap W)⟩

/-- What an iterator over a map's keys gives. -/
def GivesKeys (g : FuncId) : Prop := ∀ (n : Nat) (w : World) (Bm : Nat) (m : Option Nat) (ks : List Int), 1 ≤ n → Bm < w.heap.size → w.cell? ⟨Bm, 0, none⟩ = some (.map m) → KeysAre Go.Proofs.Tryz.prog 3 w m ks →
  ∃ N, N ≤ 1000000 ∧ ∃ S : List Int → Prop, (∀ ss, S ss → ss.Perm ks) ∧ SeqGives Fence.wide n Go.Proofs.Tryz.prog g #[.pointer (some ⟨Bm, 0, none⟩)] encZ S N w
theorem givesA : GivesKeys 179 := by
  intro n w Bm m ks hn hB hc hk
  rcases hk with ⟨rfl, rfl⟩ | ⟨b, nn, D0, rfl, hown, hp, hs⟩
  · exact ⟨0, by omega, _, fun ss h => by rw [show ss = [] from h], AnyZI.keys_gives_nil (ρ := Go.Proofs.Tryz.keysA_ren) Go.Proofs.Tryz.keysA Fence.wide n trivial rfl Bm w hB hc⟩
  · exact ⟨_, hs, _, fun ss h => List.Perm.trans h hp, AnyZI.keys_gives (ρ := Go.Proofs.Tryz.keysA_ren) Go.Proofs.Tryz.keysA Fence.wide n trivial rfl hn Bm b nn D0 w hB hc hown⟩
theorem givesB : GivesKeys 288 := by
  intro n w Bm m ks hn hB hc hk
  rcases hk with ⟨rfl, rfl⟩ | ⟨b, nn, D0, rfl, hown, hp, hs⟩
  · exact ⟨0, by omega, _, fun ss h => by rw [show ss = [] from h], AnyZI.keys_gives_nil (ρ := Go.Proofs.Tryz.keysB_ren) Go.Proofs.Tryz.keysB Fence.wide n trivial rfl Bm w hB hc⟩
  · exact ⟨_, hs, _, fun ss h => List.Perm.trans h hp, AnyZI.keys_gives (ρ := Go.Proofs.Tryz.keysB_ren) Go.Proofs.Tryz.keysB Fence.wide n trivial rfl hn Bm b nn D0 w hB hc hown⟩

theorem sortedC {g : FuncId} (hg : GivesKeys g) (eg : ∀ args w, (callFunc g args).run Go.Proofs.Tryz.prog w = .ok (.enter g args) w) : SortedC Go.Proofs.Tryz.prog 3 3 211 g := by
  intro w Bm m ks hB hc hk
  obtain ⟨N, hN, S, hS, hseq⟩ := hg (5 - 1 - 1 - 1) w Bm m ks (by omega) hB hc hk
  refine (callsIn_wide.1 (AnyZI.sorted_in Go.Proofs.Tryz.sortedA Fence.wide 5 trivial trivial trivial trivial rfl (by omega) (sortsZ _) (enters_of Go.Proofs.Tryz.func111 (by kernel_rfl) rfl) g _ trivial eg S N (Nat.le_trans hN (by decide)) (by omega) w hseq)).mono ?_
  rintro e w' ⟨v, ss, h1, h2, h3, h4, h5⟩
  exact ⟨v, ss, h1, hS ss h2, h3, h4, h5⟩
theorem collectC {g : FuncId} (hg : GivesKeys g) (eg : ∀ args w, (callFunc g args).run Go.Proofs.Tryz.prog w = .ok (.enter g args) w) : CollectC Go.Proofs.Tryz.prog 3 3 88 g := by
  intro w Bm m ks hB hc hk
  obtain ⟨N, hN, S, hS, hseq⟩ := hg (5 - 1 - 1) w Bm m ks (by omega) hB hc hk
  refine (callsIn_wide.1 (AnyZI.collect_in Go.Proofs.Tryz.collA Fence.wide 5 trivial trivial rfl (by omega) g _ trivial eg S N (Nat.le_trans hN (by decide)) (by omega) w hseq)).mono ?_
  rintro e w' ⟨v, ss, h1, h2, h3, h4, h5⟩
  exact ⟨v, ss, h1, hS ss h2, h3, h4, h5⟩

set_option maxHeartbeats 2000000 in
set_option maxRecDepth 100000 in
theorem minC : MinC Go.Proofs.Tryz.prog 87 := by
  intro b off n c zs w hn hz hbig hc
  have h0 : w.cell? ⟨b, off, none⟩ = some (.int .i64 (zs.getD 0 0)) := hc 0 (by omega)
  go_enter Go.Proofs.Tryz.func87, Go.Proofs.Tryz.ntmps87
  go_wp2
  go_loop [3, 4] (fun m i => ∃ k : Nat, 0 < k ∧ k ≤ n ∧ i = .int .i64 k ∧ m = .int .i64 (Lib.minOf (zs.take k))) (fun _ i => match i with | .int _ q => n - q.toNat | _ => 0)
  case atStart => exact ⟨1, Nat.one_pos, hn, rfl, by rw [Lib.minOf_one]; simp [List.getD]⟩
  case round =>
    obtain ⟨k, hk0, hk, rfl, rfl⟩ := hrel
    have hcell : k < n → w.cell? ⟨b, off + k, none⟩ = some (.int .i64 (zs.getD k 0)) := fun _ => hc k (by omega)
    go_wp2
    · have hlt : k < n := by assumption
      have e1 : ((k : Int) + 1 + 9223372036854775808) % 18446744073709551616 - 9223372036854775808 = ((k + 1 : Nat) : Int) := by omega
      refine ⟨⟨k + 1, Nat.succ_pos k, by omega, rfl, ?_⟩, (by
        have e2 : ((k : Int) + 1).toNat = k + 1 := by omega
        have e3 : ((k : Int)).toNat = k := by omega
        simp only [e2, e3]; omega)⟩
      rw [Lib.minOf_step zs k hk0 (by omega)]
      simp [List.getD]
    · have hge : ¬ k < n := by assumption
      have : k = n := by omega
      subst this
      go_ret
      exact ⟨rfl, rfl⟩

set_option maxRecDepth 100000 in
theorem hk_ok (E : Env) (w0 : World) (ws : List Nat) (EO : EnvOK Go.Proofs.Tryz.prog E) (hh : ∀ f n, E.hk.get f = some n → (f, n) ∈ hooks ++ ws.map fun f => (f, 5)) (hT : ∀ f ∈ ws, TrueC Go.Proofs.Tryz.prog w0 f)
    (hent : ∀ f ∈ ws, ∀ args w, (callFunc f args).run Go.Proofs.Tryz.prog w = .ok (.enter f args) w) : HkOK Go.Proofs.Tryz.prog E w0 := by
  have e179 : ∀ args w, (callFunc 179 args).run Go.Proofs.Tryz.prog w = .ok (.enter 179 args) w := enters_of Go.Proofs.Tryz.func179 (by kernel_rfl) rfl
  have e288 : ∀ args w, (callFunc 288 args).run Go.Proofs.Tryz.prog w = .ok (.enter 288 args) w := enters_of Go.Proofs.Tryz.func288 (by kernel_rfl) rfl
  have e211 : ∀ args w, (callFunc 211 args).run Go.Proofs.Tryz.prog w = .ok (.enter 211 args) w := enters_of Go.Proofs.Tryz.func211 (by kernel_rfl) rfl
  have e88 : ∀ args w, (callFunc 88 args).run Go.Proofs.Tryz.prog w = .ok (.enter 88 args) w := enters_of Go.Proofs.Tryz.func88 (by kernel_rfl) rfl
  have e87 : ∀ args w, (callFunc 87 args).run Go.Proofs.Tryz.prog w = .ok (.enter 87 args) w := enters_of Go.Proofs.Tryz.func87 (by kernel_rfl) rfl
  have cases : ∀ f n, (f, n) ∈ hooks ++ ws.map (fun f => (f, 5)) → (f = 211 ∧ n = 2) ∨ (f = 88 ∧ n = 3) ∨ (f = 87 ∧ n = 4) ∨ (f = 179 ∧ n = 1) ∨ (f = 288 ∧ n = 1) ∨ (f ∈ ws ∧ n = 5) := by
    intro f n h
    rcases List.mem_append.1 h with h | h
    · have : (f = 211 ∧ n = 2) ∨ (f = 88 ∧ n = 3) ∨ (f = 87 ∧ n = 4) ∨ (f = 179 ∧ n = 1) ∨ (f = 288 ∧ n = 1) := by simpa [hooks] using h
      rcases this with h | h | h | h | h
      · exact .inl h
      · exact .inr (.inl h)
      · exact .inr (.inr (.inl h))
      · exact .inr (.inr (.inr (.inl h)))
      · exact .inr (.inr (.inr (.inr (.inl h))))
    · obtain ⟨g, hg, e⟩ := List.mem_map.1 h
      cases e
      exact .inr (.inr (.inr (.inr (.inr ⟨hg, rfl⟩))))
  refine hooks_ok EO hh (kt := 3) (T := 3) Go.Proofs.Tryz.underlying3 ?_ ?_ ?_ ?_ ?_ ?_
  · intro f g hf hg
    rcases cases f 2 hf with ⟨rfl, _⟩ | ⟨_, h⟩ | ⟨_, h⟩ | ⟨_, h⟩ | ⟨_, h⟩ | ⟨_, h⟩ <;> first | (exact absurd h (by decide)) | skip
    rcases cases g 1 hg with ⟨_, h⟩ | ⟨_, h⟩ | ⟨_, h⟩ | ⟨rfl, _⟩ | ⟨rfl, _⟩ | ⟨_, h⟩ <;> first | (exact absurd h (by decide)) | skip
    · exact sortedC givesA e179
    · exact sortedC givesB e288
  · intro f g hf hg
    rcases cases f 3 hf with ⟨_, h⟩ | ⟨rfl, _⟩ | ⟨_, h⟩ | ⟨_, h⟩ | ⟨_, h⟩ | ⟨_, h⟩ <;> first | (exact absurd h (by decide)) | skip
    rcases cases g 1 hg with ⟨_, h⟩ | ⟨_, h⟩ | ⟨_, h⟩ | ⟨rfl, _⟩ | ⟨rfl, _⟩ | ⟨_, h⟩ <;> first | (exact absurd h (by decide)) | skip
    · exact collectC givesA e179
    · exact collectC givesB e288
  · intro f hf
    rcases cases f 4 hf with ⟨_, h⟩ | ⟨_, h⟩ | ⟨rfl, _⟩ | ⟨_, h⟩ | ⟨_, h⟩ | ⟨_, h⟩ <;> first | (exact absurd h (by decide)) | skip
    exact minC
  · intro f hf
    rcases cases f 5 hf with ⟨_, h⟩ | ⟨_, h⟩ | ⟨_, h⟩ | ⟨_, h⟩ | ⟨_, h⟩ | ⟨h, _⟩ <;> first | (exact absurd h (by decide)) | skip
    exact hT f h
  · intro f n h
    rcases cases f n h with ⟨_, rfl⟩ | ⟨_, rfl⟩ | ⟨_, rfl⟩ | ⟨_, rfl⟩ | ⟨_, rfl⟩ | ⟨_, rfl⟩ <;> decide
  · intro f n h hn
    rcases cases f n h with ⟨rfl, rfl⟩ | ⟨rfl, rfl⟩ | ⟨rfl, rfl⟩ | ⟨rfl, rfl⟩ | ⟨rfl, rfl⟩ | ⟨h2, rfl⟩
    · exact e211
    · exact e88
    · exact e87
    · omega
    · omega
    · exact hent f h2

/-- **A CLOSED RUN OF A LAW**: true. -/
theorem run_true {ws : List Nat} {fuel : Nat} {f : FuncId} {args : List AV} {args' : Array Value} (hr : RunsTrue (runK Go.Proofs.Tryz.prog plans keys (hooks ++ ws.map fun f => (f, 5)) tab fuel f args)) (ha : ∀ ρ, RlL ρ args args'.toList) (w : World) (ht : TabAt w tab)
    (hT : ∀ f ∈ ws, TrueC Go.Proofs.Tryz.prog w f) (hent : ∀ f ∈ ws, ∀ args w, (callFunc f args).run Go.Proofs.Tryz.prog w = .ok (.enter f args) w) :
    Calls Go.Proofs.Tryz.prog f args' w fun e w' => e = .returned (.bool true) ∧ Chg (fun _ => False) w w' := by
  have h : Bool.rec (motive := fun _ => Bool) false true (isTrue (runK Go.Proofs.Tryz.prog plans keys (hooks ++ ws.map fun f => (f, 5)) tab fuel f args)) = true := hr
  clear hr
  refine closed_run (fuel := fuel) given ?_ ha w ht fun E EO hh => hk_ok E w ws EO hh hT hent
  cases hb : isTrue (runK Go.Proofs.Tryz.prog plans keys (hooks ++ ws.map fun f => (f, 5)) tab fuel f args) with
  | false => rw [hb] at h; cases h
  | true =>
    clear h
    unfold isTrue at hb
    unfold litOf
    split at hb
    · rename_i p hp
      obtain ⟨v, H⟩ := p
      rw [hp]
      dsimp only at hb ⊢
      split at hb
      · rw [hb]
      · cases hb
    · cases hb
theorem TabAt.later {w w' : World} {l : List Nat} (h : TabAt w l) (hc : Chg (fun _ => False) w w') : TabAt w' l := by
  obtain ⟨c, e, fz, h1, h2⟩ := h
  exact ⟨c, e, fz, by rw [hc.block 0 (blk_lt h1) (fun x => x)]; exact h1, h2⟩
theorem true_c {w0 : World} {f : FuncId} (ht : TabAt w0 tab) (h : ∀ w, TabAt w tab → Calls Go.Proofs.Tryz.prog f #[] w fun e w' => e = .returned (.bool true) ∧ Chg (fun _ => False) w w') : TrueC Go.Proofs.Tryz.prog w0 f :=
  fun w hc => h w (ht.later hc)
end Go.Proofs.YtclljjfkaljdnaaGreatDoor
