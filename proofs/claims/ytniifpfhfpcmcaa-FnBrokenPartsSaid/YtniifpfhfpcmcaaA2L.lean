/- Contracts: a2Has, a2Rises, A2Some. -/
import Derived.Test.YtniifpfhfpcmcaaSrc2
import Derived.Test.YtniifpfhfpcmcaaNewM
namespace Go.Proofs.Ytniifpfhfpcmcaa
open Go.RowKit
set_option linter.unusedVariables false
set_option linter.unusedSimpArgs false

structure Box0 (p : Prop) : Prop where
  out : p
theorem a2Has_eq (A : Option Addr) (n c : Nat) (gs : List Int) (z : Int) (v : Bool) (w : World) (h : Ints w A n gs) (hn : n ≤ 1048576) (hv : hasI gs z = v) : Calls Try.prog 23 #[.slice A n c, .int .i64 z] w fun e w' =>
    e = .returned (.bool v) ∧ w = w' := by
  subst hv
  have HL := Lib.hid h.1
  go_enter Try.func23, Try.ntmps23
  go_wp2
  go_loop [5] (fun i => ∃ k : Nat, k ≤ n ∧ i = .int .i64 k ∧ NoTill gs z k) (fun i => n - (intOf i).toNat)
  case atStart => exact ⟨0, Nat.zero_le _, rfl, fun _ h => absurd h (by omega)⟩
  case round =>
    obtain ⟨k, hk, rfl, he⟩ := hrel
    by_cases hlt : k < n
    · obtain ⟨b, off, y, rfl, hblt, hy, hcy⟩ := h.at_ hlt
      have Hy := Lib.hid hy
      clear hy
      by_cases e : y = z
      · have ht : (y == z) = true := by simpa using e
        have E := Lib.hid e
        clear e
        go_wp2
        go_ret
        exact ⟨ret_bool (hasI_yes Hy.out E.out).symm, rfl⟩
      · have ht : (y == z) = false := by simpa using e
        go_wp2
        go_round
        case rel => exact ⟨k + 1, by omega, by go_num, noTill_succ he Hy.out e⟩
        case measure => simp [intOf]; omega
    · obtain rfl : k = n := by omega
      go_wp2
      go_ret
      exact ⟨ret_bool (hasI_no HL.out he).symm, rfl⟩
theorem a2Rises_true (A : Option Addr) (n c s : Nat) (zs : List Int) (w : World) (h : Ints w A n zs) (hn : n ≤ 1048576) (hr : Ris s zs) (hs : s ≤ 1000) : Calls Try.prog 22 #[.slice A n c, .int .i64 s] w fun e w' =>
    e = .returned (.bool true) ∧ Below w.heap.size w w' := by
  have HR := Box0.mk hr
  have HL := Lib.hid h.1
  clear hr
  go_enter Try.func22, Try.ntmps22
  go_wp2
  go_loopw [5] (fun i wr => ∃ k : Nat, k ≤ n ∧ i = .int .i64 k ∧ Below w.heap.size w wr) (fun i _ => n - (intOf i).toNat)
  case atStart => exact ⟨0, Nat.zero_le _, rfl, Below.refl _ _⟩
  case round =>
    obtain ⟨k, hk, rfl, hB⟩ := hrel
    by_cases hlt : k < n
    · obtain ⟨b, off, z, rfl, hblt, hz, hcz⟩ := (h.keep hB).at_ hlt
      obtain ⟨z0, z1⟩ := HR.out.rng z (List.mem_of_getElem? hz)
      have t1 : decide (z < 0) = false := decide_eq_false (by omega)
      have t2 : decide ((s : Int) ≤ z) = false := decide_eq_false (by omega)
      have k0 : (0 : Int) ≤ (k : Int) := by omega
      have k1 : (k : Int) < (n : Int) := by omega
      by_cases hk0 : k = 0
      · have kp : decide (0 < k) = false := by simp; omega
        have kq : (k : Int) ≤ 0 := by omega
        have Hk0 := Lib.hid hk0
        clear hk0 hz
        go_wp2
        go_quiet (fail)
        go_wp2
        go_roundw
        case rel => exact ⟨k + 1, by omega, by go_num, below_drewN hB _⟩
        case measure => simp [intOf]; omega
      · obtain ⟨b', off', y, hA, hblt', hy, hcy⟩ := (h.keep hB).at_ (show k - 1 < n by omega)
        injection hA with hA
        injection hA with hA1 hA2
        subst hA1 hA2
        have hyz : y < z := by
          obtain ⟨i1, e1⟩ := List.getElem?_eq_some_iff.1 hy
          obtain ⟨i2, e2⟩ := List.getElem?_eq_some_iff.1 hz
          have := List.pairwise_iff_getElem.1 HR.out.pw (k - 1) k i1 i2 (by omega)
          omega
        have t3 : decide (z ≤ y) = false := decide_eq_false (by omega)
        have kp : decide (0 < k) = true := by simp; omega
        have kq : (1 : Int) ≤ (k : Int) := by omega
        have k3 : (0 : Int) ≤ (k : Int) - 1 := by omega
        have k4 : (k : Int) - 1 < (n : Int) := by omega
        have k5 : ((k : Int) - 1).toNat = k - 1 := by omega
        clear hz hy
        go_wp2
        go_quiet (fail)
        go_wp2
        go_roundw
        case rel => exact ⟨k + 1, by omega, by go_num, below_drewN hB _⟩
        case measure => simp [intOf]; omega
    · obtain rfl : k = n := by omega
      go_wp2
      go_ret
      exact ⟨rfl, hB⟩
def DrewSome (s : Nat) (w : World) (e : Ending) (w' : World) : Prop :=
  ∃ C q c zs, e = .returned (.slice C q c) ∧ Ints w' C q zs ∧ Ris s zs ∧ Below w.heap.size w w'
set_option maxHeartbeats 2000000 in
theorem a2Some_any (A : Option Addr) (n c s : Nat) (w : World) (h : Bytes w w.heap.size A n) (hs : s ≤ 1000) : Calls Try.prog 19 #[.slice A n c, .int .i64 s] w (DrewSome s w) := by
  obtain ⟨i0, hi0, hz0, hz1, hz2⟩ := info_parts info_i64
  go_enter Try.func19, Try.ntmps19
  go_wp2_with fail
  refine (l00From_any _ _ _ _ _ h (Nat.le_refl _)).mono ?_
  rintro e w1 ⟨rfl, hs1, hB⟩
  have hlt1 := hs1.lt
  go_wp2_with fail
  go_loopw [6, 7] (fun v i wr => ∃ k : Nat, k ≤ s ∧ i = .int .i64 k ∧ (∃ C q d zs, v = .slice C q d ∧ OwnI wr w1.heap.size (.slice C q d) q zs ∧ q ≤ k ∧ zs.Pairwise (· < ·) ∧ (∀ z ∈ zs, 0 ≤ z ∧ z < k)) ∧ Src wr w.heap.size w.heap.size (2 * k) ∧ w1.grownBy wr (some w.heap.size)) (fun _ i _ => s - (intOf i).toNat)
  case atStart => exact ⟨0, Nat.zero_le _, rfl, ⟨_, _, _, [], rfl, World.ownsRow_made _ _ _ (Nat.le_refl _) (by unfold maxLen; omega) (by simp), Nat.le_refl _, .nil, fun _ h => absurd h (by simp)⟩, hs1.alloc _, World.grownBy_alloc _ _ _⟩
  case round =>
    clear hs1
    obtain ⟨k, hk, rfl, ⟨C, q, d, zs, rfl, hown, hqk, hpw, hrg⟩, hs, hg⟩ := hrel
    by_cases hlt : k < s
    · go_wp2_with fail
      refine (one_any _ _ _ _ _ hs (by omega) (by omega)).mono ?_
      rintro e w2 ⟨v, rfl, hs2, hg2⟩
      have hob := hown.lt
      have hne : ∀ g, blk C = some g → g ≠ w.heap.size := fun g hg e => by have := (hob g hg).1; omega
      replace hown : OwnI w2 w1.heap.size (.slice C q d) q zs := hown.grown hg2 (fun g e => by injection e with e; subst e; intro e2; exact hne _ e2 rfl)
      have hG2 := World.grownBy.trans hg hg2
      clear hs hg hg2 hob
      have hob := hown.lt
      have hsz2 := hG2.size
      cases v
      · go_wp2_with fail
        go_roundw
        case rel => exact ⟨k + 1, by omega, by go_num, ⟨_, _, _, _, rfl, hown, by omega, hpw, fun z hz => by have := hrg z hz; omega⟩, hs2.mono (by omega), hG2⟩
        case measure => simp [intOf]; omega
      · go_wp2_with (at_builtin; refine wpList_append_own _ rfl _ _ 22 rfl w1.heap.size 2 i0 (.int .i64 0) 1 8 Try.underlying22 hi0 hz0 hz1 hz2 rfl (by decide) _ _ _ rfl (hown.alloc _) ⟨_, 0, none⟩ 1 1 [.int .i64 k] rfl rfl (cell_one_new _ _ _) (ints_oneCell .i64 [k]) (by unfold maxLen; omega) (by omega) (by simp; omega) ?_; intro v1 w3 hown1 hgrow1 _)
        replace hgrow1 : (w2.alloc _).grownBy w3 (Value.slice C q d).ownBlock := hgrow1
        rw [blk_own] at hgrow1
        have hs3 := (hs2.alloc _).grown hgrow1 (fun g e => by have := (hob g e).1; exact ⟨by omega, hne g e⟩)
        have hG3 := World.grownBy.andThen (grown_alloc hG2 _) hgrow1 (fun j e => .inl (hob j e).1)
        obtain ⟨C', c', rfl, ho⟩ := own_app hown1
        go_roundw
        case rel =>
          refine ⟨k + 1, by omega, by go_num, ⟨_, _, _, _, rfl, ho, by omega, ?_, fun z hz => ?_⟩, hs3.mono (by omega), hG3⟩
          · rw [List.pairwise_append]
            exact ⟨hpw, by simp, fun a ha b hb => by simp at hb; subst hb; exact (hrg a ha).2⟩
          · rcases List.mem_append.1 hz with hz | hz
            · have := hrg z hz; omega
            · simp at hz; omega
        case measure => simp [intOf]; omega
    · obtain rfl : k = s := by omega
      go_wp2
      go_ret
      exact ⟨C, q, d, zs, rfl, OwnI.ints hown, ⟨hpw, hrg⟩, hB.grown hg (by omega) (fun g e => by injection e with e; omega)⟩
end Go.Proofs.Ytniifpfhfpcmcaa
