/- Draws of a packing: A2Weights, A2Places, A2Order. -/
import Derived.Test.YtkkipkmjhakknaaPackV
import Derived.Test.YtkkipkmjhakknaaA2
namespace Go.Proofs.Ytkkipkmjhakknaa
open Go.RowKit
set_option linter.unusedVariables false
set_option linter.unusedSimpArgs false

/-- A list of lo to hi numbers from a to b, the call's own. -/
def DrewList (a b : Int) (lo hi : Nat) (w : World) (e : Ending) (w' : World) : Prop :=
  ∃ C q c zs, e = .returned (.slice C q c) ∧ OwnI w' w.heap.size (.slice C q c) q zs ∧ (lo ≤ q ∧ q ≤ hi) ∧ (∀ z ∈ zs, a ≤ z ∧ z ≤ b) ∧ Below w.heap.size w w'
set_option maxHeartbeats 2000000 in
theorem a2Weights_any (A : Option Addr) (n c : Nat) (w : World) (h : Bytes w w.heap.size A n) : Calls Try.prog 15 #[.slice A n c] w (DrewList 50 1000 0 4 w) := by
  obtain ⟨i0, hi0, hz0, hz1, hz2⟩ := info_parts info_i64
  go_enter Try.func15, Try.ntmps15
  go_wp2_with fail
  refine (l00From_any _ _ _ _ _ h (Nat.le_refl _)).mono ?_
  rintro e w1 ⟨rfl, hs1, hB⟩
  have hlt1 := hs1.lt
  go_wp2_with fail
  refine (pick_any 5 w.heap.size w.heap.size 0 _ (hs1.alloc _) (by omega) (by omega)).mono ?_
  rintro e w2 ⟨v, rfl, v0, v1, hs2, hg2⟩
  obtain ⟨v, rfl⟩ := Int.eq_ofNat_of_zero_le v0
  have hown2 : OwnI w2 w1.heap.size (.slice (some ⟨w1.heap.size, 0, none⟩) 0 0) 0 [] := OwnI.grown (World.ownsRow_made _ _ _ (Nat.le_refl _) (by unfold maxLen; omega) (by simp)) hg2 (fun g e hC => by injection e with e; simp [blk] at hC; omega)
  have hG2 := World.grownBy.trans (World.grownBy_alloc w1 _ (some w.heap.size)) hg2
  clear hs1 hg2
  go_wp2_with fail
  go_loopw [4, 5] (fun v i wr => ∃ j : Nat, i = .int .i64 j ∧ (∃ C q c zs, v = .slice C q c ∧ OwnI wr w1.heap.size (.slice C q c) q zs ∧ j + q ≤ 4 ∧ (∀ z ∈ zs, 50 ≤ z ∧ z ≤ 1000) ∧ Src wr w.heap.size w.heap.size (2 + 2 * q)) ∧ w1.grownBy wr (some w.heap.size)) (fun _ i _ => (intOf i).toNat)
  case atStart => exact ⟨v, rfl, ⟨_, 0, _, [], rfl, hown2, by omega, fun _ h => absurd h (by simp), hs2⟩, hG2⟩
  case round =>
    clear hs2 hown2 hG2
    obtain ⟨j, rfl, ⟨C, q, c, zs, rfl, hown, hq, hzs, hs⟩, hg⟩ := hrel
    have hsz := hg.size
    by_cases hj : 0 < j
    · go_wp2_with fail
      refine (pick_any 20 w.heap.size w.heap.size _ wr hs (by omega) (by omega)).mono ?_
      rintro e w2 ⟨u, rfl, u0, u1, hs2, hg2⟩
      have b1 : 50 ≤ 50 * (1 + u) ∧ 50 * (1 + u) ≤ 1000 := by omega
      have hob := OwnI.lt hown
      have hne : ∀ g, some w.heap.size = some g → blk C ≠ some g := fun g e hC => by injection e with e; have := (hob g hC).1; omega
      replace hown := OwnI.grown hown hg2 hne
      have hG2 := World.grownBy.trans hg hg2
      clear hs hg hg2 hob hsz
      have hob := OwnI.lt hown
      have hsz2 := hG2.size
      go_wp2_with (at_builtin; refine wpList_append_own _ rfl _ _ 24 rfl w1.heap.size 2 i0 (.int .i64 0) 1 8 Try.underlying24 hi0 hz0 hz1 hz2 rfl (by decide) _ _ _ rfl (hown.alloc _) ⟨_, 0, none⟩ 1 1 [.int .i64 (50 * (1 + u))] rfl rfl (cell_one_new _ _ _) (ints_oneCell .i64 [(50 * (1 + u))]) (by unfold maxLen; omega) (by omega) (by simp; omega) ?_; intro v1 w3 hown1 hgrow1 _)
      · replace hgrow1 : (w2.alloc _).grownBy w3 (Value.slice C q c).ownBlock := hgrow1
        rw [blk_own] at hgrow1
        have hs3 := (hs2.alloc _).grown hgrow1 (fun g e => ⟨by have := (hob g e).1; omega, by have := (hob g e).1; omega⟩)
        have hG3 := World.grownBy.andThen (grown_alloc hG2 _) hgrow1 (fun j e => .inl (hob j e).1)
        obtain ⟨C', c', rfl, ho⟩ := own_app hown1
        go_roundw
        case rel =>
          refine ⟨j - 1, by go_num, ⟨_, _, _, _, rfl, ho, by omega, fun z hz => ?_, hs3.mono (by omega)⟩, hG3⟩
          rcases List.mem_append.1 hz with hz | hz
          · exact hzs z hz
          · simp at hz; omega
        case measure => simp [intOf]; omega
    · obtain rfl : j = 0 := by omega
      go_wp2
      go_ret
      exact ⟨C, q, c, zs, rfl, OwnI.low hown (by omega), ⟨Nat.zero_le _, by omega⟩, hzs, hB.grown hg (by omega) (fun g e => by injection e with e; omega)⟩
set_option maxHeartbeats 2000000 in
theorem a2Places_any (A : Option Addr) (n c m : Nat) (w : World) (h : Bytes w w.heap.size A n) (hm : m ≤ 1000) : Calls Try.prog 16 #[.slice A n c, .int .i64 m] w (DrewList 0 40 m (m + 2) w) := by
  obtain ⟨i0, hi0, hz0, hz1, hz2⟩ := info_parts info_i64
  go_enter Try.func16, Try.ntmps16
  go_wp2_with fail
  refine (l00From_any _ _ _ _ _ h (Nat.le_refl _)).mono ?_
  rintro e w1 ⟨rfl, hs1, hB⟩
  have hlt1 := hs1.lt
  go_wp2_with fail
  refine (pick_any 3 w.heap.size w.heap.size 0 _ (hs1.alloc _) (by omega) (by omega)).mono ?_
  rintro e w2 ⟨v, rfl, v0, v1, hs2, hg2⟩
  obtain ⟨v, rfl⟩ := Int.eq_ofNat_of_zero_le v0
  have hown2 : OwnI w2 w1.heap.size (.slice (some ⟨w1.heap.size, 0, none⟩) 0 0) 0 [] := OwnI.grown (World.ownsRow_made _ _ _ (Nat.le_refl _) (by unfold maxLen; omega) (by simp)) hg2 (fun g e hC => by injection e with e; simp [blk] at hC; omega)
  have hG2 := World.grownBy.trans (World.grownBy_alloc w1 _ (some w.heap.size)) hg2
  have hmv : IntKind.i64.wrap ((m : Int) + (v : Int)) = ((m + v : Nat) : Int) := by rw [IntWalk.i64_in _ (by omega)]; omega
  clear hs1 hg2
  go_wp2_with fail
  go_loopw [6, 7] (fun v i wr => ∃ j : Nat, i = .int .i64 j ∧ (∃ C q c zs, v = .slice C q c ∧ OwnI wr w1.heap.size (.slice C q c) q zs ∧ (m ≤ j + q ∧ j + q ≤ m + 2) ∧ (∀ z ∈ zs, 0 ≤ z ∧ z ≤ 40) ∧ Src wr w.heap.size w.heap.size (2 + 2 * q)) ∧ w1.grownBy wr (some w.heap.size)) (fun _ i _ => (intOf i).toNat)
  case atStart => exact ⟨m + v, by first | rfl | go_num, ⟨_, 0, _, [], rfl, hown2, by omega, fun _ h => absurd h (by simp), hs2⟩, hG2⟩
  case round =>
    clear hs2 hown2 hG2
    obtain ⟨j, rfl, ⟨C, q, c, zs, rfl, hown, hq, hzs, hs⟩, hg⟩ := hrel
    have hsz := hg.size
    by_cases hj : 0 < j
    · go_wp2_with fail
      refine (pick_any 41 w.heap.size w.heap.size _ wr hs (by omega) (by omega)).mono ?_
      rintro e w2 ⟨u, rfl, u0, u1, hs2, hg2⟩
      have b1 : 0 ≤ u ∧ u ≤ 40 := by omega
      have hob := OwnI.lt hown
      have hne : ∀ g, some w.heap.size = some g → blk C ≠ some g := fun g e hC => by injection e with e; have := (hob g hC).1; omega
      replace hown := OwnI.grown hown hg2 hne
      have hG2 := World.grownBy.trans hg hg2
      clear hs hg hg2 hob hsz
      have hob := OwnI.lt hown
      have hsz2 := hG2.size
      go_wp2_with (at_builtin; refine wpList_append_own _ rfl _ _ 24 rfl w1.heap.size 2 i0 (.int .i64 0) 1 8 Try.underlying24 hi0 hz0 hz1 hz2 rfl (by decide) _ _ _ rfl (hown.alloc _) ⟨_, 0, none⟩ 1 1 [.int .i64 u] rfl rfl (cell_one_new _ _ _) (ints_oneCell .i64 [u]) (by unfold maxLen; omega) (by omega) (by simp; omega) ?_; intro v1 w3 hown1 hgrow1 _)
      · replace hgrow1 : (w2.alloc _).grownBy w3 (Value.slice C q c).ownBlock := hgrow1
        rw [blk_own] at hgrow1
        have hs3 := (hs2.alloc _).grown hgrow1 (fun g e => ⟨by have := (hob g e).1; omega, by have := (hob g e).1; omega⟩)
        have hG3 := World.grownBy.andThen (grown_alloc hG2 _) hgrow1 (fun j e => .inl (hob j e).1)
        obtain ⟨C', c', rfl, ho⟩ := own_app hown1
        go_roundw
        case rel =>
          refine ⟨j - 1, by go_num, ⟨_, _, _, _, rfl, ho, by omega, fun z hz => ?_, hs3.mono (by omega)⟩, hG3⟩
          rcases List.mem_append.1 hz with hz | hz
          · exact hzs z hz
          · simp at hz; omega
        case measure => simp [intOf]; omega
    · obtain rfl : j = 0 := by omega
      go_wp2
      go_ret
      exact ⟨C, q, c, zs, rfl, OwnI.low hown (by omega), by omega, hzs, hB.grown hg (by omega) (fun g e => by injection e with e; omega)⟩
end Go.Proofs.Ytkkipkmjhakknaa
