/- Contracts about words: the code of a word and stakes, SpiralOf, RowsAgain. -/
import Derived.Test.YtipelbhikomkiaaWord
namespace Go.Proofs.Ytipelbhikomkiaa
open Go.RowKit
set_option linter.unusedVariables false
set_option linter.unusedSimpArgs false

theorem l06Stakes_any (n : Int) (w : World) : Calls Try.prog 46 #[.int .i64 n] w fun e w' => e = .returned (.bool (inB n 3 60)) ∧ w = w' := by
  go_enter Try.func46, Try.ntmps46
  go_wp2_with (go_at_call 50; refine (l00In_any _ _ _ _).mono ?_; rintro e w' ⟨rfl, rfl⟩)
  go_ret
  exact ⟨rfl, rfl⟩

/-- The code of a word and a number of stakes. -/
def wCode (s : ByteArray) (n : Int) : Int := if okWord s then (if inB n 3 60 then 0 else 2) else 1
theorem wCode_0 {s : ByteArray} {n : Int} (h1 : okWord s = true) (h2 : inB n 3 60 = true) : wCode s n = 0 := by simp [wCode, h1, h2]
theorem wCode_good {s : ByteArray} {n : Int} (h : wCode s n = 0) : okWord s = true ∧ inB n 3 60 = true := by
  unfold wCode at h
  revert h
  cases okWord s <;> cases inB n 3 60 <;> simp

theorem wordCode_any (s : ByteArray) (n : Int) (w : World) (hs : s.size ≤ maxLen) : Calls Try.prog 49 #[.string s, .int .i64 n] w fun e w' => e = .returned (.int .i64 (wCode s n)) ∧ w = w' := by
  cases h1 : okWord s
  · go_enter Try.func49, Try.ntmps49
    go_wp2_with (first | (go_at_call 15; refine (validWord_any _ _ hs).mono ?_; rintro e w' ⟨rfl, rfl⟩) | (go_at_call 47; refine (areStakes_any _ _).mono ?_; rintro e w' ⟨rfl, rfl⟩))
    go_ret
    exact ⟨by simp [wCode, h1], rfl⟩
  cases h2 : inB n 3 60
  · go_enter Try.func49, Try.ntmps49
    go_wp2_with (first | (go_at_call 15; refine (validWord_any _ _ hs).mono ?_; rintro e w' ⟨rfl, rfl⟩) | (go_at_call 47; refine (areStakes_any _ _).mono ?_; rintro e w' ⟨rfl, rfl⟩))
    go_ret
    exact ⟨by simp [wCode, h1, h2], rfl⟩
  · go_enter Try.func49, Try.ntmps49
    go_wp2_with (first | (go_at_call 15; refine (validWord_any _ _ hs).mono ?_; rintro e w' ⟨rfl, rfl⟩) | (go_at_call 47; refine (areStakes_any _ _).mono ?_; rintro e w' ⟨rfl, rfl⟩))
    go_ret
    exact ⟨by simp [wCode, h1, h2], rfl⟩
theorem l12Code_any (s : ByteArray) (n : Int) (w : World) (hs : s.size ≤ maxLen) : Calls Try.prog 48 #[.string s, .int .i64 n] w fun e w' => e = .returned (.int .i64 (wCode s n)) ∧ w = w' := by
  cases h1 : okWord s
  · go_enter Try.func48, Try.ntmps48
    go_wp2_with (first | (go_at_call 44; refine (l12Ok_any _ _ hs).mono ?_; rintro e w' ⟨rfl, rfl⟩) | (go_at_call 46; refine (l06Stakes_any _ _).mono ?_; rintro e w' ⟨rfl, rfl⟩))
    go_ret
    exact ⟨by simp [wCode, h1], rfl⟩
  cases h2 : inB n 3 60
  · go_enter Try.func48, Try.ntmps48
    go_wp2_with (first | (go_at_call 44; refine (l12Ok_any _ _ hs).mono ?_; rintro e w' ⟨rfl, rfl⟩) | (go_at_call 46; refine (l06Stakes_any _ _).mono ?_; rintro e w' ⟨rfl, rfl⟩))
    go_ret
    exact ⟨by simp [wCode, h1, h2], rfl⟩
  · go_enter Try.func48, Try.ntmps48
    go_wp2_with (first | (go_at_call 44; refine (l12Ok_any _ _ hs).mono ?_; rintro e w' ⟨rfl, rfl⟩) | (go_at_call 46; refine (l06Stakes_any _ _).mono ?_; rintro e w' ⟨rfl, rfl⟩))
    go_ret
    exact ⟨by simp [wCode, h1, h2], rfl⟩

/-- The same, the code under a name of one's own: 'hq' tells which way is gone. -/
theorem wordCode_eq (s : ByteArray) (n c : Int) (w : World) (hs : s.size ≤ maxLen) (hq : wCode s n = c) : Calls Try.prog 49 #[.string s, .int .i64 n] w fun e w' => e = .returned (.int .i64 c) ∧ w = w' := by
  rw [← hq]; exact wordCode_any s n w hs
theorem l12Code_eq (s : ByteArray) (n c : Int) (w : World) (hs : s.size ≤ maxLen) (hq : wCode s n = c) : Calls Try.prog 48 #[.string s, .int .i64 n] w fun e w' => e = .returned (.int .i64 c) ∧ w = w' := by
  rw [← hq]; exact l12Code_any s n w hs

def mv (l n : Int) : Int := -(n % l) % l
theorem mv_eq (l n : Int) : (l - n % l) % l = mv l n := by unfold mv; rw [show l - n % l = -(n % l) + l * 1 by omega, Int.add_mul_emod_self_left]
def spirV (s : ByteArray) (n : Int) : Int × Int := if wCode s n = 0 then (if (s.size : Int) < 2 * mv s.size n then mv s.size n - s.size else mv s.size n, 0) else (0, wCode s n)
theorem mv_bd {l n : Int} (h : 1 ≤ l) : 0 ≤ n % l ∧ n % l < l ∧ 0 ≤ (l - n % l) % l ∧ (l - n % l) % l < l ∧ 0 ≤ -(n % l) % l ∧ -(n % l) % l < l := by
  have h1 := Int.emod_nonneg n (show l ≠ 0 by omega)
  have h2 := Int.emod_lt_of_pos n (show 0 < l by omega)
  have h3 := Int.emod_nonneg (l - n % l) (show l ≠ 0 by omega)
  have h4 := Int.emod_lt_of_pos (l - n % l) (show 0 < l by omega)
  have h5 := h3
  have h6 := h4
  rw [mv_eq] at h5 h6
  unfold mv at h5 h6
  exact ⟨h1, h2, h3, h4, h5, h6⟩

theorem implSpiralOf_any (s : ByteArray) (n : Int) (w : World) (hs : s.size ≤ maxLen) : Calls Try.prog 19 #[.string s, .int .i64 n] w fun e w' => e = .returned (.tuple #[.int .i64 (spirV s n).1, .int .i64 (spirV s n).2]) ∧ w = w' := by
  by_cases hq : wCode s n = 0
  · obtain ⟨g1, g2⟩ := wCode_good hq
    have i2 := (inB_iff _ _ _).1 g2
    obtain ⟨_, l1, l2⟩ := okWord_iff.1 g1
    have hv : spirV s n = (if (s.size : Int) < 2 * mv s.size n then mv s.size n - s.size else mv s.size n, 0) := by simp [spirV, hq]
    rw [hv]
    clear hv
    have hm := mv_bd (l := s.size) (n := n) (by omega)
    have Hq := Lib.hid hq
    clear hq
    unfold mv
    by_cases hc : (s.size : Int) < 2 * (-(n % s.size) % s.size)
    · rw [if_pos hc]
      go_enter Try.func19, Try.ntmps19
      go_wp2_with (go_at_call 49; refine (wordCode_eq _ _ 0 _ hs Hq.out).mono ?_; rintro e w' ⟨rfl, rfl⟩)
      go_ret2
      exact ⟨rfl, rfl⟩
    · rw [if_neg hc]
      go_enter Try.func19, Try.ntmps19
      go_wp2_with (go_at_call 49; refine (wordCode_eq _ _ 0 _ hs Hq.out).mono ?_; rintro e w' ⟨rfl, rfl⟩)
      go_ret2
      have he : Ending.returned (.tuple #[.int .i64 (((s.size : Int) - n % s.size) % s.size), .int .i64 0]) = .returned (.tuple #[.int .i64 (-(n % (s.size : Int)) % s.size), .int .i64 0]) := by rw [mv_eq]; rfl
      exact ⟨he, rfl⟩
  · have hv : spirV s n = (0, wCode s n) := by simp [spirV, hq]
    rw [hv]
    clear hv
    have hq' : (wCode s n != 0) = true := by simp [hq]
    clear hq
    go_enter Try.func19, Try.ntmps19
    go_wp2_with (go_at_call 49; refine (wordCode_any _ _ _ hs).mono ?_; rintro e w' ⟨rfl, rfl⟩)
    go_ret2
    exact ⟨rfl, rfl⟩
theorem specSpiralOf_any (s : ByteArray) (n : Int) (w : World) (hs : s.size ≤ maxLen) : Calls Try.prog 18 #[.string s, .int .i64 n] w fun e w' => e = .returned (.tuple #[.int .i64 (spirV s n).1, .int .i64 (spirV s n).2]) ∧ w = w' := by
  by_cases hq : wCode s n = 0
  · obtain ⟨g1, g2⟩ := wCode_good hq
    have i2 := (inB_iff _ _ _).1 g2
    obtain ⟨_, l1, l2⟩ := okWord_iff.1 g1
    have hv : spirV s n = (if (s.size : Int) < 2 * mv s.size n then mv s.size n - s.size else mv s.size n, 0) := by simp [spirV, hq]
    rw [hv]
    clear hv
    have hm := mv_bd (l := s.size) (n := n) (by omega)
    have Hq := Lib.hid hq
    clear hq
    unfold mv
    by_cases hc : (s.size : Int) < 2 * (-(n % s.size) % s.size)
    · rw [if_pos hc]
      go_enter Try.func18, Try.ntmps18
      go_wp2_with (go_at_call 48; refine (l12Code_eq _ _ 0 _ hs Hq.out).mono ?_; rintro e w' ⟨rfl, rfl⟩)
      go_ret2
      exact ⟨rfl, rfl⟩
    · rw [if_neg hc]
      go_enter Try.func18, Try.ntmps18
      go_wp2_with (go_at_call 48; refine (l12Code_eq _ _ 0 _ hs Hq.out).mono ?_; rintro e w' ⟨rfl, rfl⟩)
      go_ret2
      have he : Ending.returned (.tuple #[.int .i64 (((s.size : Int) - n % s.size) % s.size), .int .i64 0]) = .returned (.tuple #[.int .i64 (-(n % (s.size : Int)) % s.size), .int .i64 0]) := by rw [mv_eq]; rfl
      exact ⟨he, rfl⟩
  · have hv : spirV s n = (0, wCode s n) := by simp [spirV, hq]
    rw [hv]
    clear hv
    have hq' : (wCode s n != 0) = true := by simp [hq]
    clear hq
    go_enter Try.func18, Try.ntmps18
    go_wp2_with (go_at_call 48; refine (l12Code_any _ _ _ hs).mono ?_; rintro e w' ⟨rfl, rfl⟩)
    go_ret2
    exact ⟨rfl, rfl⟩

theorem law_FnExactSpiralOf (s : ByteArray) (hs : s.size ≤ maxLen) (n : Int) (_ : (Lit.int .i64 n).wf = true) (w : World) : Calls Try.prog 5 #[.string s, .int .i64 n] w fun e w' => e = .returned (.bool true) ∧ Below w.heap.size w w' := by
  by_cases h : 1048576 < s.size
  · have h' : (1048576 : Int) < (s.size : Int) := by omega
    go_enter Try.func5, Try.ntmps5
    go_wp2
    go_ret
    exact ⟨rfl, Below.refl _ _⟩
  · have h' : ¬ (1048576 : Int) < (s.size : Int) := by omega
    go_enter Try.func5, Try.ntmps5
    go_wp2_with (first | (go_at_call 18; refine (specSpiralOf_any _ _ _ hs).mono ?_; rintro e w' ⟨rfl, rfl⟩) | (go_at_call 19; refine (implSpiralOf_any _ _ _ hs).mono ?_; rintro e w' ⟨rfl, rfl⟩))
    go_ret
    exact ⟨rfl, Below.refl _ _⟩

def againV (s : ByteArray) (n : Int) : Int × Int := if wCode s n = 0 then ((s.size : Int) / (Nat.gcd s.size n.toNat : Nat), 0) else (0, wCode s n)

theorem gcd_bd {a b : Nat} (h : 1 ≤ a) : (1 : Int) ≤ (Nat.gcd a b : Nat) ∧ ((Nat.gcd a b : Nat) : Int) ≤ a ∧ 0 ≤ (a : Int) / (Nat.gcd a b : Nat) ∧ (a : Int) / (Nat.gcd a b : Nat) ≤ a := by
  have h1 := Nat.gcd_pos_of_pos_left b (show 0 < a by omega)
  have h2 := Nat.gcd_le_left b (show 0 < a by omega)
  have h3 : 0 ≤ (a : Int) / (Nat.gcd a b : Nat) := Int.ediv_nonneg (by omega) (by omega)
  have h4 : (a : Int) / (Nat.gcd a b : Nat) ≤ a := Int.ediv_le_self _ (by omega)
  omega

theorem beginsAgain_any (s : ByteArray) (n : Nat) (w : World) (l1 : 1 ≤ s.size) (l2 : s.size ≤ 12) (hn : n ≤ 1000000) : Calls Try.prog 53 #[.string s, .int .i64 n] w fun e w' => e = .returned (.int .i64 ((s.size : Int) / (Nat.gcd s.size n : Nat))) ∧ ∃ k, w' = w.drewN k := by
  have hg := gcd_bd (b := n) l1
  go_enter Try.func53, Try.ntmps53
  go_wp2_with (go_at_call 62; refine (divisor_any _ _ _ (by omega) (by omega)).mono ?_; rintro e w' ⟨rfl, k, rfl⟩)
  go_ret
  exact ⟨rfl, _, rfl⟩

theorem implRowsAgain_any (s : ByteArray) (n : Int) (w : World) (hs : s.size ≤ maxLen) : Calls Try.prog 23 #[.string s, .int .i64 n] w fun e w' => e = .returned (.tuple #[.int .i64 (againV s n).1, .int .i64 (againV s n).2]) ∧ ∃ k, w' = w.drewN k := by
  by_cases hq : wCode s n = 0
  · obtain ⟨g1, g2⟩ := wCode_good hq
    have i2 := (inB_iff _ _ _).1 g2
    obtain ⟨_, l1, l2⟩ := okWord_iff.1 g1
    obtain ⟨n, rfl⟩ := Int.eq_ofNat_of_zero_le (show 0 ≤ n by omega)
    have hv : againV s n = ((s.size : Int) / (Nat.gcd s.size n : Nat), 0) := by simp [againV, hq]
    rw [hv]
    clear hv
    have Hq := Lib.hid hq
    clear hq
    go_enter Try.func23, Try.ntmps23
    go_wp2_with (first | (go_at_call 49; refine (wordCode_eq _ _ 0 _ hs Hq.out).mono ?_; rintro e w' ⟨rfl, rfl⟩) | (go_at_call 53; refine (beginsAgain_any _ _ _ l1 l2 (by omega)).mono ?_; rintro e w' ⟨rfl, k, rfl⟩))
    go_ret2
    exact ⟨rfl, _, rfl⟩
  · have hv : againV s n = (0, wCode s n) := by simp [againV, hq]
    rw [hv]
    clear hv
    have hq' : (wCode s n != 0) = true := by simp [hq]
    clear hq
    go_enter Try.func23, Try.ntmps23
    go_wp2_with (go_at_call 49; refine (wordCode_any _ _ _ hs).mono ?_; rintro e w' ⟨rfl, rfl⟩)
    go_ret2
    exact ⟨rfl, 0, rfl⟩

theorem specRowsAgain_any (s : ByteArray) (n : Int) (w : World) (hs : s.size ≤ maxLen) : Calls Try.prog 22 #[.string s, .int .i64 n] w fun e w' => e = .returned (.tuple #[.int .i64 (againV s n).1, .int .i64 (againV s n).2]) ∧ w = w' := by
  by_cases hq : wCode s n = 0
  · obtain ⟨g1, g2⟩ := wCode_good hq
    have i2 := (inB_iff _ _ _).1 g2
    obtain ⟨_, l1, l2⟩ := okWord_iff.1 g1
    obtain ⟨n, rfl⟩ := Int.eq_ofNat_of_zero_le (show 0 ≤ n by omega)
    have hg := gcd_bd (b := n) l1
    have hv : againV s n = ((s.size : Int) / (Nat.gcd s.size n : Nat), 0) := by simp [againV, hq]
    rw [hv]
    clear hv
    have Hq := Lib.hid hq
    clear hq
    go_enter Try.func22, Try.ntmps22
    go_wp2_with (first | (go_at_call 48; refine (l12Code_eq _ _ 0 _ hs Hq.out).mono ?_; rintro e w' ⟨rfl, rfl⟩) | (go_at_call 52; refine (l00Gcd_any _ _ _ (by omega) (by omega)).mono ?_; rintro e w' ⟨rfl, rfl⟩))
    go_ret2
    exact ⟨rfl, rfl⟩
  · have hv : againV s n = (0, wCode s n) := by simp [againV, hq]
    rw [hv]
    clear hv
    have hq' : (wCode s n != 0) = true := by simp [hq]
    clear hq
    go_enter Try.func22, Try.ntmps22
    go_wp2_with (go_at_call 48; refine (l12Code_any _ _ _ hs).mono ?_; rintro e w' ⟨rfl, rfl⟩)
    go_ret2
    exact ⟨rfl, rfl⟩

theorem law_FnExactRowsAgain (s : ByteArray) (hs : s.size ≤ maxLen) (n : Int) (_ : (Lit.int .i64 n).wf = true) (w : World) : Calls Try.prog 7 #[.string s, .int .i64 n] w fun e w' => e = .returned (.bool true) ∧ Below w.heap.size w w' := by
  by_cases h : 1048576 < s.size
  · have h' : (1048576 : Int) < (s.size : Int) := by omega
    go_enter Try.func7, Try.ntmps7
    go_wp2
    go_ret
    exact ⟨rfl, Below.refl _ _⟩
  · have h' : ¬ (1048576 : Int) < (s.size : Int) := by omega
    go_enter Try.func7, Try.ntmps7
    go_wp2_with (first | (go_at_call 22; refine (specRowsAgain_any _ _ _ hs).mono ?_; rintro e w' ⟨rfl, rfl⟩) | (go_at_call 23; refine (implRowsAgain_any _ _ _ hs).mono ?_; rintro e w' ⟨rfl, k, rfl⟩))
    go_ret
    exact ⟨rfl, below_drewN (Below.refl _ _) _⟩
end Go.Proofs.Ytipelbhikomkiaa
