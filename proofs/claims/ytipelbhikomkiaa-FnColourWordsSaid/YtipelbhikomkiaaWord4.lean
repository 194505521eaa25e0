/- Contracts about words: CountColour. -/
import Derived.Test.YtipelbhikomkiaaWord3
namespace Go.Proofs.Ytipelbhikomkiaa
open Go.RowKit
set_option linter.unusedVariables false
set_option linter.unusedSimpArgs false

/-- How many of the first k bytes of the word, worked again and again, are d. -/
def cnt (s : ByteArray) (d : Nat) : Nat → Nat
  | 0 => 0
  | k + 1 => cnt s d k + if bt s (k % s.size) = d then 1 else 0
theorem cnt_le (s : ByteArray) (d : Nat) : ∀ k, cnt s d k ≤ k
  | 0 => Nat.le_refl _
  | k + 1 => by have := cnt_le s d k; unfold cnt; split <;> omega
def goodCol (c : ByteArray) : Bool := decide (c.size = 1) && inB (bt c 0 : Int) 97 122
def countV (s : ByteArray) (n r : Int) (c : ByteArray) : Int × Int := if wCode s n = 0 then (if inB r 0 100 && goodCol c then ((cnt s (bt c 0) (r.toNat * n.toNat) : Int), 0) else (0, 2)) else (0, wCode s n)

theorem implCountColour_any (s : ByteArray) (n r : Int) (c : ByteArray) (w : World) (hs : s.size ≤ maxLen) (hc : c.size ≤ maxLen) : Calls Try.prog 21 #[.string s, .int .i64 n, .int .i64 r, .string c] w fun e w' => e = .returned (.tuple #[.int .i64 (countV s n r c).1, .int .i64 (countV s n r c).2]) ∧ ∃ k, w' = w.drewN k := by
  unfold maxLen at hc
  by_cases hq : wCode s n = 0
  case neg =>
    have hv : countV s n r c = (0, wCode s n) := by simp [countV, hq]
    rw [hv]
    clear hv
    have hq' : (wCode s n != 0) = true := by simp [hq]
    have hq2 : (wCode s n == 0) = false := by simp [hq]
    clear hq
    go_enter Try.func21, Try.ntmps21
    go_wp2_with (go_at_call 49; refine (wordCode_any _ _ _ hs).mono ?_; rintro e w' ⟨rfl, rfl⟩)
    go_ret2
    exact ⟨rfl, 0, rfl⟩
  obtain ⟨g1, g2⟩ := wCode_good hq
  have i2 := (inB_iff _ _ _).1 g2
  obtain ⟨_, l1, l2⟩ := okWord_iff.1 g1
  obtain ⟨n, rfl⟩ := Int.eq_ofNat_of_zero_le (show 0 ≤ n by omega)
  have Hq := Lib.hid hq
  cases g3 : inB r 0 100
  · have hv : countV s n r c = (0, 2) := by simp [countV, hq, g3]
    rw [hv]
    clear hv hq
    go_enter Try.func21, Try.ntmps21
    go_wp2_with (first | (go_at_call 49; refine (wordCode_eq _ _ 0 _ hs Hq.out).mono ?_; rintro e w' ⟨rfl, rfl⟩) | (go_at_call 51; refine (within_any _ _ _ _).mono ?_; rintro e w' ⟨rfl, rfl⟩) | (go_at_call 45; refine (isColour_any _ _).mono ?_; rintro e w' ⟨rfl, rfl⟩))
    go_ret2
    exact ⟨rfl, 0, rfl⟩
  have i3 := (inB_iff _ _ _).1 g3
  obtain ⟨r, rfl⟩ := Int.eq_ofNat_of_zero_le (show 0 ≤ r by omega)
  by_cases g4 : c.size = 1
  case neg =>
    have hv : countV s n r c = (0, 2) := by simp [countV, hq, g3, goodCol, g4]
    rw [hv]
    clear hv hq
    have g4' : ((c.size : Int) != 1) = true := by rw [bne_iff_ne]; omega
    clear g4
    go_enter Try.func21, Try.ntmps21
    go_wp2_with (first | (go_at_call 49; refine (wordCode_eq _ _ 0 _ hs Hq.out).mono ?_; rintro e w' ⟨rfl, rfl⟩) | (go_at_call 51; refine (within_any _ _ _ _).mono ?_; rintro e w' ⟨rfl, rfl⟩) | (go_at_call 45; refine (isColour_any _ _).mono ?_; rintro e w' ⟨rfl, rfl⟩))
    go_ret2
    exact ⟨rfl, 0, rfl⟩
  have hc0 : 0 < c.size := by omega
  have g4' : ((c.size : Int) != 1) = false := by rw [bne_eq_false_iff_eq]; omega
  have hb := bt_eq hc0
  cases g5 : inB (bt c 0 : Int) 97 122
  · have hv : countV s n r c = (0, 2) := by simp [countV, hq, g3, goodCol, g4, g5]
    rw [hv]
    clear hv hq g4
    rw [← hb] at g5
    clear hb
    go_enter Try.func21, Try.ntmps21
    go_wp2_with (first | (go_at_call 49; refine (wordCode_eq _ _ 0 _ hs Hq.out).mono ?_; rintro e w' ⟨rfl, rfl⟩) | (go_at_call 51; refine (within_any _ _ _ _).mono ?_; rintro e w' ⟨rfl, rfl⟩) | (go_at_call 45; refine (isColour_any _ _).mono ?_; rintro e w' ⟨rfl, rfl⟩))
    go_ret2
    exact ⟨rfl, 0, rfl⟩
  have hv : countV s n r c = ((cnt s (bt c 0) (r * n) : Int), 0) := by simp [countV, hq, g3, goodCol, g4, g5]
  rw [hv]
  clear hv hq g4
  rw [← hb] at g5
  clear hb
  have i5 := (inB_iff _ _ _).1 g5
  have hp := mulb (x := (r : Int)) (y := (n : Int)) (A := 100) (B := 60) (by omega) (by omega) (by omega) (by omega)
  have hp' : r * n ≤ 6000 := by have : ((r * n : Nat) : Int) ≤ 6000 := by rw [Int.natCast_mul]; omega
                                omega
  go_enter Try.func21, Try.ntmps21
  go_wp2_with (first | (go_at_call 49; refine (wordCode_eq _ _ 0 _ hs Hq.out).mono ?_; rintro e w' ⟨rfl, rfl⟩) | (go_at_call 51; refine (within_any _ _ _ _).mono ?_; rintro e w' ⟨rfl, rfl⟩) | (go_at_call 45; refine (isColour_any _ _).mono ?_; rintro e w' ⟨rfl, rfl⟩))
  go_loopw [11, 36] (fun m i wr => ∃ k : Nat, k ≤ r * n ∧ i = .int .i64 k ∧ m = .int .i64 (cnt s (bt c 0) k : Nat) ∧ ∃ n, wr = w.drewN n) (fun _ i _ => r * n - (intOf i).toNat)
  case atStart => exact ⟨0, Nat.zero_le _, rfl, rfl, 0, rfl⟩
  case round =>
    obtain ⟨k, hk, rfl, rfl, nw, rfl⟩ := hrel
    have hcl := cnt_le s (bt c 0) k
    by_cases hlt : k < r * n
    · have hlt' : (k : Int) < (r : Int) * (n : Int) := by exact_mod_cast hlt
      obtain ⟨ra0, ra1, ra2, ra3⟩ := mod_facts (k := k) l1
      by_cases hne : bt s (k % s.size) = bt c 0
      · have hcs : cnt s (bt c 0) (k + 1) = cnt s (bt c 0) k + 1 := by rw [cnt, if_pos hne]
        have ht : (((s[k % s.size]'ra3).toNat : Int) == ((c[0]'hc0).toNat : Int)) = true := by rw [bt_eq, bt_eq]; simp [hne]
        have Hcs := Lib.hid hcs
        clear hne hcs
        go_wp2
        go_quiet (fail)
        go_wp2
        go_roundw
        case rel => exact ⟨k + 1, by omega, by go_num, by rw [Hcs.out]; go_num, (by first | exact ⟨_, rfl⟩ | exact drew2 _ _ _ | exact ⟨0, rfl⟩)⟩
        case measure => simp [intOf]; omega
      · have hcs : cnt s (bt c 0) (k + 1) = cnt s (bt c 0) k := by rw [cnt, if_neg hne, Nat.add_zero]
        have ht : (((s[k % s.size]'ra3).toNat : Int) == ((c[0]'hc0).toNat : Int)) = false := by rw [bt_eq, bt_eq, beq_eq_false_iff_ne]; exact_mod_cast hne
        have Hcs := Lib.hid hcs
        clear hne hcs
        go_wp2
        go_quiet (fail)
        go_wp2
        go_roundw
        case rel => exact ⟨k + 1, by omega, by go_num, by rw [Hcs.out], (by first | exact ⟨_, rfl⟩ | exact drew2 _ _ _ | exact ⟨0, rfl⟩)⟩
        case measure => simp [intOf]; omega
    · obtain rfl : k = r * n := by omega
      have hge : ¬ ((r * n : Nat) : Int) < (r : Int) * (n : Int) := by rw [Int.natCast_mul]; omega
      go_wp2
      go_ret2
      exact ⟨rfl, nw, rfl⟩
theorem specCountColour_any (s : ByteArray) (n r : Int) (c : ByteArray) (w : World) (hs : s.size ≤ maxLen) (hc : c.size ≤ maxLen) : Calls Try.prog 20 #[.string s, .int .i64 n, .int .i64 r, .string c] w fun e w' => e = .returned (.tuple #[.int .i64 (countV s n r c).1, .int .i64 (countV s n r c).2]) ∧ ∃ k, w' = w.drewN k := by
  unfold maxLen at hc
  by_cases hq : wCode s n = 0
  case neg =>
    have hv : countV s n r c = (0, wCode s n) := by simp [countV, hq]
    rw [hv]
    clear hv
    have hq' : (wCode s n != 0) = true := by simp [hq]
    have hq2 : (wCode s n == 0) = false := by simp [hq]
    clear hq
    go_enter Try.func20, Try.ntmps20
    go_wp2_with (go_at_call 48; refine (l12Code_any _ _ _ hs).mono ?_; rintro e w' ⟨rfl, rfl⟩)
    go_ret2
    exact ⟨rfl, 0, rfl⟩
  obtain ⟨g1, g2⟩ := wCode_good hq
  have i2 := (inB_iff _ _ _).1 g2
  obtain ⟨_, l1, l2⟩ := okWord_iff.1 g1
  obtain ⟨n, rfl⟩ := Int.eq_ofNat_of_zero_le (show 0 ≤ n by omega)
  have Hq := Lib.hid hq
  cases g3 : inB r 0 100
  · have hv : countV s n r c = (0, 2) := by simp [countV, hq, g3]
    rw [hv]
    clear hv hq
    go_enter Try.func20, Try.ntmps20
    go_wp2_with (first | (go_at_call 48; refine (l12Code_eq _ _ 0 _ hs Hq.out).mono ?_; rintro e w' ⟨rfl, rfl⟩) | (go_at_call 50; refine (l00In_any _ _ _ _).mono ?_; rintro e w' ⟨rfl, rfl⟩))
    go_ret2
    exact ⟨rfl, 0, rfl⟩
  have i3 := (inB_iff _ _ _).1 g3
  obtain ⟨r, rfl⟩ := Int.eq_ofNat_of_zero_le (show 0 ≤ r by omega)
  by_cases g4 : c.size = 1
  case neg =>
    have hv : countV s n r c = (0, 2) := by simp [countV, hq, g3, goodCol, g4]
    rw [hv]
    clear hv hq
    have g4' : ((c.size : Int) != 1) = true := by rw [bne_iff_ne]; omega
    clear g4
    go_enter Try.func20, Try.ntmps20
    go_wp2_with (first | (go_at_call 48; refine (l12Code_eq _ _ 0 _ hs Hq.out).mono ?_; rintro e w' ⟨rfl, rfl⟩) | (go_at_call 50; refine (l00In_any _ _ _ _).mono ?_; rintro e w' ⟨rfl, rfl⟩))
    go_ret2
    exact ⟨rfl, 0, rfl⟩
  have hc0 : 0 < c.size := by omega
  have g4' : ((c.size : Int) != 1) = false := by rw [bne_eq_false_iff_eq]; omega
  have hb := bt_eq hc0
  cases g5 : inB (bt c 0 : Int) 97 122
  · have hv : countV s n r c = (0, 2) := by simp [countV, hq, g3, goodCol, g4, g5]
    rw [hv]
    clear hv hq g4
    rw [← hb] at g5
    clear hb
    by_cases c1 : ((c[0]'hc0).toNat : Int) < 97
    · go_enter Try.func20, Try.ntmps20
      go_wp2_with (first | (go_at_call 48; refine (l12Code_eq _ _ 0 _ hs Hq.out).mono ?_; rintro e w' ⟨rfl, rfl⟩) | (go_at_call 50; refine (l00In_any _ _ _ _).mono ?_; rintro e w' ⟨rfl, rfl⟩))
      go_ret2
      exact ⟨rfl, 0, rfl⟩
    · have c2 : 122 < ((c[0]'hc0).toNat : Int) := by have := (inB_not _ _ _).1 g5; omega
      go_enter Try.func20, Try.ntmps20
      go_wp2_with (first | (go_at_call 48; refine (l12Code_eq _ _ 0 _ hs Hq.out).mono ?_; rintro e w' ⟨rfl, rfl⟩) | (go_at_call 50; refine (l00In_any _ _ _ _).mono ?_; rintro e w' ⟨rfl, rfl⟩))
      go_ret2
      exact ⟨rfl, 0, rfl⟩
  have hv : countV s n r c = ((cnt s (bt c 0) (r * n) : Int), 0) := by simp [countV, hq, g3, goodCol, g4, g5]
  rw [hv]
  clear hv hq g4
  rw [← hb] at g5
  clear hb
  have i5 := (inB_iff _ _ _).1 g5
  have hp := mulb (x := (r : Int)) (y := (n : Int)) (A := 100) (B := 60) (by omega) (by omega) (by omega) (by omega)
  have hp' : r * n ≤ 6000 := by have : ((r * n : Nat) : Int) ≤ 6000 := by rw [Int.natCast_mul]; omega
                                omega
  go_enter Try.func20, Try.ntmps20
  go_wp2_with (first | (go_at_call 48; refine (l12Code_eq _ _ 0 _ hs Hq.out).mono ?_; rintro e w' ⟨rfl, rfl⟩) | (go_at_call 50; refine (l00In_any _ _ _ _).mono ?_; rintro e w' ⟨rfl, rfl⟩))
  go_loopw [11, 12] (fun m i wr => ∃ k : Nat, k ≤ r * n ∧ i = .int .i64 k ∧ m = .int .i64 (cnt s (bt c 0) k : Nat) ∧ ∃ n, wr = w.drewN n) (fun _ i _ => r * n - (intOf i).toNat)
  case atStart => exact ⟨0, Nat.zero_le _, rfl, rfl, 0, rfl⟩
  case round =>
    obtain ⟨k, hk, rfl, rfl, nw, rfl⟩ := hrel
    have hcl := cnt_le s (bt c 0) k
    by_cases hlt : k < r * n
    · have hlt' : (k : Int) < (r : Int) * (n : Int) := by exact_mod_cast hlt
      obtain ⟨ra0, ra1, ra2, ra3⟩ := mod_facts (k := k) l1
      by_cases hne : bt s (k % s.size) = bt c 0
      · have hcs : cnt s (bt c 0) (k + 1) = cnt s (bt c 0) k + 1 := by rw [cnt, if_pos hne]
        have ht : (((s[k % s.size]'ra3).toNat : Int) == ((c[0]'hc0).toNat : Int)) = true := by rw [bt_eq, bt_eq]; simp [hne]
        have Hcs := Lib.hid hcs
        clear hne hcs
        go_wp2
        go_quiet (fail)
        go_wp2
        go_roundw
        case rel => exact ⟨k + 1, by omega, by go_num, by rw [Hcs.out]; go_num, (by first | exact ⟨_, rfl⟩ | exact drew2 _ _ _ | exact ⟨0, rfl⟩)⟩
        case measure => simp [intOf]; omega
      · have hcs : cnt s (bt c 0) (k + 1) = cnt s (bt c 0) k := by rw [cnt, if_neg hne, Nat.add_zero]
        have ht : (((s[k % s.size]'ra3).toNat : Int) == ((c[0]'hc0).toNat : Int)) = false := by rw [bt_eq, bt_eq, beq_eq_false_iff_ne]; exact_mod_cast hne
        have Hcs := Lib.hid hcs
        clear hne hcs
        go_wp2
        go_quiet (fail)
        go_wp2
        go_roundw
        case rel => exact ⟨k + 1, by omega, by go_num, by rw [Hcs.out], (by first | exact ⟨_, rfl⟩ | exact drew2 _ _ _ | exact ⟨0, rfl⟩)⟩
        case measure => simp [intOf]; omega
    · obtain rfl : k = r * n := by omega
      have hge : ¬ ((r * n : Nat) : Int) < (r : Int) * (n : Int) := by rw [Int.natCast_mul]; omega
      go_wp2
      go_ret2
      exact ⟨rfl, nw, rfl⟩

theorem law_FnExactCountColour (a : ByteArray) (ha : a.size ≤ maxLen) (n : Int) (_ : (Lit.int .i64 n).wf = true) (r : Int) (_ : (Lit.int .i64 r).wf = true) (b : ByteArray) (hb : b.size ≤ maxLen) (w : World) : Calls Try.prog 6 #[.string a, .int .i64 n, .int .i64 r, .string b] w fun e w' => e = .returned (.bool true) ∧ Below w.heap.size w w' := by
  by_cases h : 1048576 < a.size
  · have h' : (1048576 : Int) < (a.size : Int) := by omega
    go_enter Try.func6, Try.ntmps6
    go_wp2
    go_ret
    exact ⟨rfl, Below.refl _ _⟩
  have h' : ¬ (1048576 : Int) < (a.size : Int) := by omega
  by_cases g : 1048576 < b.size
  · have g' : (1048576 : Int) < (b.size : Int) := by omega
    go_enter Try.func6, Try.ntmps6
    go_wp2
    go_ret
    exact ⟨rfl, Below.refl _ _⟩
  have g' : ¬ (1048576 : Int) < (b.size : Int) := by omega
  go_enter Try.func6, Try.ntmps6
  go_wp2_with (first | (go_at_call 20; refine (specCountColour_any _ _ _ _ _ ha hb).mono ?_; rintro e w' ⟨rfl, k1, rfl⟩) | (go_at_call 21; refine (implCountColour_any _ _ _ _ _ ha hb).mono ?_; rintro e w' ⟨rfl, k2, rfl⟩))
  go_ret
  exact ⟨rfl, below_drewN (Below.refl _ _) _⟩
end Go.Proofs.Ytipelbhikomkiaa
