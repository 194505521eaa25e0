/- Contracts about words: SameRows. -/
import Derived.Test.YtipelbhikomkiaaWord2
namespace Go.Proofs.Ytipelbhikomkiaa
open Go.RowKit
set_option linter.unusedVariables false
set_option linter.unusedSimpArgs false

/-- Byte i of a text. -/
def bt (s : ByteArray) (i : Nat) : Nat := (s.data.toList.getD i 0).toNat
theorem bt_eq {s : ByteArray} {i : Nat} (h : i < s.size) : (s[i]'h).toNat = bt s i := by
  unfold bt
  rw [List.getD_eq_getElem?_getD, List.getElem?_eq_getElem (by simpa using h)]
  rfl

def sameAll (a b : ByteArray) : Bool := (List.range (a.size * b.size)).all fun k => bt a (k % a.size) == bt b (k % b.size)
def SameTill (a b : ByteArray) (k : Nat) : Prop := ∀ j, j < k → bt a (j % a.size) = bt b (j % b.size)
theorem sameTill_succ {a b : ByteArray} {k : Nat} (h : SameTill a b k) (hk : bt a (k % a.size) = bt b (k % b.size)) : SameTill a b (k + 1) := fun j hj => by
  rcases Nat.lt_succ_iff_lt_or_eq.1 hj with h1 | rfl
  · exact h j h1
  · exact hk
theorem sameAll_true {a b : ByteArray} (h : SameTill a b (a.size * b.size)) : sameAll a b = true := by
  unfold sameAll
  rw [List.all_eq_true]
  intro k hk
  simpa using h k (by simpa using hk)
theorem sameAll_false {a b : ByteArray} {k : Nat} (hk : k < a.size * b.size) (h : ¬ bt a (k % a.size) = bt b (k % b.size)) : sameAll a b = false := by
  unfold sameAll
  rw [List.all_eq_false]
  exact ⟨k, by simpa using hk, by simpa using h⟩
def sameV (a b : ByteArray) (n : Int) : Bool × Int := if okWord a && okWord b then (if inB n 3 60 then (sameAll a b, 0) else (false, 2)) else (false, 1)

theorem mod_facts {k s : Nat} (h : 1 ≤ s) : 0 ≤ (k : Int) % (s : Int) ∧ (k : Int) % (s : Int) < (s : Int) ∧ ((k : Int) % (s : Int)).toNat = k % s ∧ k % s < s := by
  have h1 := Int.emod_nonneg (k : Int) (show (s : Int) ≠ 0 by omega)
  have h2 := Int.emod_lt_of_pos (k : Int) (show 0 < (s : Int) by omega)
  have h3 := Nat.mod_lt k (show s > 0 by omega)
  omega

theorem specSameRows_any (a b : ByteArray) (n : Int) (w : World) (ha : a.size ≤ maxLen) (hb : b.size ≤ maxLen) : Calls Try.prog 16 #[.string a, .string b, .int .i64 n] w fun e w' => e = .returned (.tuple #[.bool (sameV a b n).1, .int .i64 (sameV a b n).2]) ∧ ∃ k, w' = w.drewN k := by
  cases g1 : okWord a
  · have hv : sameV a b n = (false, 1) := by simp [sameV, g1]
    rw [hv]
    clear hv
    go_enter Try.func16, Try.ntmps16
    go_wp2_with (first | (go_at_call 44; refine (l12Ok_any _ _ (by assumption)).mono ?_; rintro e w' ⟨rfl, rfl⟩) | (go_at_call 46; refine (l06Stakes_any _ _).mono ?_; rintro e w' ⟨rfl, rfl⟩))
    go_ret2
    exact ⟨rfl, 0, rfl⟩
  cases g2 : okWord b
  · have hv : sameV a b n = (false, 1) := by simp [sameV, g1, g2]
    rw [hv]
    clear hv
    go_enter Try.func16, Try.ntmps16
    go_wp2_with (first | (go_at_call 44; refine (l12Ok_any _ _ (by assumption)).mono ?_; rintro e w' ⟨rfl, rfl⟩) | (go_at_call 46; refine (l06Stakes_any _ _).mono ?_; rintro e w' ⟨rfl, rfl⟩))
    go_ret2
    exact ⟨rfl, 0, rfl⟩
  cases g3 : inB n 3 60
  · have hv : sameV a b n = (false, 2) := by simp [sameV, g1, g2, g3]
    rw [hv]
    clear hv
    go_enter Try.func16, Try.ntmps16
    go_wp2_with (first | (go_at_call 44; refine (l12Ok_any _ _ (by assumption)).mono ?_; rintro e w' ⟨rfl, rfl⟩) | (go_at_call 46; refine (l06Stakes_any _ _).mono ?_; rintro e w' ⟨rfl, rfl⟩))
    go_ret2
    exact ⟨rfl, 0, rfl⟩
  have hv : sameV a b n = (sameAll a b, 0) := by simp [sameV, g1, g2, g3]
  rw [hv]
  clear hv
  obtain ⟨_, l1, l2⟩ := okWord_iff.1 g1
  obtain ⟨_, m1, m2⟩ := okWord_iff.1 g2
  have hp := mulb (x := (a.size : Int)) (y := (b.size : Int)) (A := 12) (B := 12) (by omega) (by omega) (by omega) (by omega)
  go_enter Try.func16, Try.ntmps16
  go_wp2_with (first | (go_at_call 44; refine (l12Ok_any _ _ (by assumption)).mono ?_; rintro e w' ⟨rfl, rfl⟩) | (go_at_call 46; refine (l06Stakes_any _ _).mono ?_; rintro e w' ⟨rfl, rfl⟩))
  go_loopw [8] (fun i wr => ∃ k : Nat, k ≤ a.size * b.size ∧ i = .int .i64 k ∧ SameTill a b k ∧ ∃ n, wr = w.drewN n) (fun i _ => a.size * b.size - (intOf i).toNat)
  case atStart => exact ⟨0, Nat.zero_le _, rfl, fun _ hj => absurd hj (by omega), 0, rfl⟩
  case round =>
    obtain ⟨k, hk, rfl, hs, nw, rfl⟩ := hrel
    by_cases hlt : k < a.size * b.size
    · have hlt' : (k : Int) < (a.size : Int) * (b.size : Int) := by exact_mod_cast hlt
      obtain ⟨ra0, ra1, ra2, ra3⟩ := mod_facts (k := k) l1
      obtain ⟨rb0, rb1, rb2, rb3⟩ := mod_facts (k := k) m1
      by_cases hne : bt a (k % a.size) = bt b (k % b.size)
      · have ht : (((a[k % a.size]'ra3).toNat : Int) != ((b[k % b.size]'rb3).toNat : Int)) = false := by rw [bt_eq, bt_eq]; simp [hne]
        have Hne := Lib.hid hne
        clear hne
        go_wp2
        go_quiet (fail)
        go_wp2
        go_roundw
        case rel => exact ⟨k + 1, by omega, by go_num, sameTill_succ hs Hne.out, _, rfl⟩
        case measure => simp [intOf]; omega
      · have ht : (((a[k % a.size]'ra3).toNat : Int) != ((b[k % b.size]'rb3).toNat : Int)) = true := by rw [bt_eq, bt_eq, bne_iff_ne]; exact_mod_cast hne
        go_wp2
        go_quiet (fail)
        go_wp2
        go_ret2
        rw [sameAll_false hlt hne]
        exact ⟨rfl, (by first | exact ⟨_, rfl⟩ | exact drew2 _ _ _ | exact ⟨0, rfl⟩)⟩
    · obtain rfl : k = a.size * b.size := by omega
      have hge : ¬ ((a.size * b.size : Nat) : Int) < (a.size : Int) * (b.size : Int) := by rw [Int.natCast_mul]; omega
      go_wp2
      go_ret2
      rw [sameAll_true hs]
      exact ⟨rfl, nw, rfl⟩
theorem implSameRows_any (a b : ByteArray) (n : Int) (w : World) (ha : a.size ≤ maxLen) (hb : b.size ≤ maxLen) : Calls Try.prog 17 #[.string a, .string b, .int .i64 n] w fun e w' => e = .returned (.tuple #[.bool (sameV a b n).1, .int .i64 (sameV a b n).2]) ∧ ∃ k, w' = w.drewN k := by
  cases g1 : okWord a
  · have hv : sameV a b n = (false, 1) := by simp [sameV, g1]
    rw [hv]
    clear hv
    go_enter Try.func17, Try.ntmps17
    go_wp2_with (first | (go_at_call 15; refine (validWord_any _ _ (by assumption)).mono ?_; rintro e w' ⟨rfl, rfl⟩) | (go_at_call 47; refine (areStakes_any _ _).mono ?_; rintro e w' ⟨rfl, rfl⟩))
    go_ret2
    exact ⟨rfl, 0, rfl⟩
  cases g2 : okWord b
  · have hv : sameV a b n = (false, 1) := by simp [sameV, g1, g2]
    rw [hv]
    clear hv
    go_enter Try.func17, Try.ntmps17
    go_wp2_with (first | (go_at_call 15; refine (validWord_any _ _ (by assumption)).mono ?_; rintro e w' ⟨rfl, rfl⟩) | (go_at_call 47; refine (areStakes_any _ _).mono ?_; rintro e w' ⟨rfl, rfl⟩))
    go_ret2
    exact ⟨rfl, 0, rfl⟩
  cases g3 : inB n 3 60
  · have hv : sameV a b n = (false, 2) := by simp [sameV, g1, g2, g3]
    rw [hv]
    clear hv
    go_enter Try.func17, Try.ntmps17
    go_wp2_with (first | (go_at_call 15; refine (validWord_any _ _ (by assumption)).mono ?_; rintro e w' ⟨rfl, rfl⟩) | (go_at_call 47; refine (areStakes_any _ _).mono ?_; rintro e w' ⟨rfl, rfl⟩))
    go_ret2
    exact ⟨rfl, 0, rfl⟩
  have hv : sameV a b n = (sameAll a b, 0) := by simp [sameV, g1, g2, g3]
  rw [hv]
  clear hv
  obtain ⟨_, l1, l2⟩ := okWord_iff.1 g1
  obtain ⟨_, m1, m2⟩ := okWord_iff.1 g2
  have hp := mulb (x := (a.size : Int)) (y := (b.size : Int)) (A := 12) (B := 12) (by omega) (by omega) (by omega) (by omega)
  go_enter Try.func17, Try.ntmps17
  go_wp2_with (first | (go_at_call 15; refine (validWord_any _ _ (by assumption)).mono ?_; rintro e w' ⟨rfl, rfl⟩) | (go_at_call 47; refine (areStakes_any _ _).mono ?_; rintro e w' ⟨rfl, rfl⟩))
  go_loopw [25] (fun i wr => ∃ k : Nat, k ≤ a.size * b.size ∧ i = .int .i64 k ∧ SameTill a b k ∧ ∃ n, wr = w.drewN n) (fun i _ => a.size * b.size - (intOf i).toNat)
  case atStart => exact ⟨0, Nat.zero_le _, rfl, fun _ hj => absurd hj (by omega), 0, rfl⟩
  case round =>
    obtain ⟨k, hk, rfl, hs, nw, rfl⟩ := hrel
    by_cases hlt : k < a.size * b.size
    · have hlt' : (k : Int) < (a.size : Int) * (b.size : Int) := by exact_mod_cast hlt
      obtain ⟨ra0, ra1, ra2, ra3⟩ := mod_facts (k := k) l1
      obtain ⟨rb0, rb1, rb2, rb3⟩ := mod_facts (k := k) m1
      by_cases hne : bt a (k % a.size) = bt b (k % b.size)
      · have ht : (((a[k % a.size]'ra3).toNat : Int) != ((b[k % b.size]'rb3).toNat : Int)) = false := by rw [bt_eq, bt_eq]; simp [hne]
        have Hne := Lib.hid hne
        clear hne
        go_wp2
        go_quiet (fail)
        go_wp2
        go_roundw
        case rel => exact ⟨k + 1, by omega, by go_num, sameTill_succ hs Hne.out, _, rfl⟩
        case measure => simp [intOf]; omega
      · have ht : (((a[k % a.size]'ra3).toNat : Int) != ((b[k % b.size]'rb3).toNat : Int)) = true := by rw [bt_eq, bt_eq, bne_iff_ne]; exact_mod_cast hne
        go_wp2
        go_quiet (fail)
        go_wp2
        go_ret2
        rw [sameAll_false hlt hne]
        exact ⟨rfl, (by first | exact ⟨_, rfl⟩ | exact drew2 _ _ _ | exact ⟨0, rfl⟩)⟩
    · obtain rfl : k = a.size * b.size := by omega
      have hge : ¬ ((a.size * b.size : Nat) : Int) < (a.size : Int) * (b.size : Int) := by rw [Int.natCast_mul]; omega
      go_wp2
      go_ret2
      rw [sameAll_true hs]
      exact ⟨rfl, nw, rfl⟩

theorem law_FnExactSameRows (a : ByteArray) (ha : a.size ≤ maxLen) (b : ByteArray) (hb : b.size ≤ maxLen) (n : Int) (_ : (Lit.int .i64 n).wf = true) (w : World) : Calls Try.prog 4 #[.string a, .string b, .int .i64 n] w fun e w' => e = .returned (.bool true) ∧ Below w.heap.size w w' := by
  by_cases h : 1048576 < a.size
  · have h' : (1048576 : Int) < (a.size : Int) := by omega
    go_enter Try.func4, Try.ntmps4
    go_wp2
    go_ret
    exact ⟨rfl, Below.refl _ _⟩
  have h' : ¬ (1048576 : Int) < (a.size : Int) := by omega
  by_cases g : 1048576 < b.size
  · have g' : (1048576 : Int) < (b.size : Int) := by omega
    go_enter Try.func4, Try.ntmps4
    go_wp2
    go_ret
    exact ⟨rfl, Below.refl _ _⟩
  have g' : ¬ (1048576 : Int) < (b.size : Int) := by omega
  go_enter Try.func4, Try.ntmps4
  go_wp2_with (first | (go_at_call 16; refine (specSameRows_any _ _ _ _ ha hb).mono ?_; rintro e w' ⟨rfl, k1, rfl⟩) | (go_at_call 17; refine (implSameRows_any _ _ _ _ ha hb).mono ?_; rintro e w' ⟨rfl, k2, rfl⟩))
  go_ret
  exact ⟨rfl, below_drewN (Below.refl _ _) _⟩
end Go.Proofs.Ytipelbhikomkiaa
