/- Contracts of fractions in lowest terms. -/
import Derived.Test.YtkkipkmjhakknaaBase
import Derived.StillTailTactics
import Derived.RegionTactic
import Derived.ChangeAlike
namespace Go.Proofs.Ytkkipkmjhakknaa
open Go.RowKit
set_option linter.unusedVariables false
set_option linter.unusedSimpArgs false

theorem build_frac (a b : Int) (w : World) : (Instr.build 52 #[(0, .int .i64 a), (1, .int .i64 b)]).run Try.prog w = .ok (.agg #[.int .i64 a, .int .i64 b]) w := run_build w 52 _ _ (by kernel_rfl)

theorem l00Size_any (a : Int) (w : World) (h : -9223372036854775807 ≤ a) (h' : a ≤ 9223372036854775807) : Calls Try.prog 74 #[.int .i64 a] w fun e w' => e = .returned (.int .i64 (a.natAbs : Nat)) ∧ w = w' := by
  by_cases h0 : a < 0
  · have hv : ((a.natAbs : Nat) : Int) = -a := by omega
    rw [hv]
    clear hv
    go_enter Try.func74, Try.ntmps74
    go_wp2
    go_ret
    exact ⟨rfl, rfl⟩
  · have hv : ((a.natAbs : Nat) : Int) = a := by omega
    rw [hv]
    clear hv
    go_enter Try.func74, Try.ntmps74
    go_wp2
    go_ret
    exact ⟨rfl, rfl⟩

/-- a / b in lowest terms. -/
def lowN (a b : Nat) : Int := (a : Int) / (Nat.gcd a b : Nat)
def lowD (a b : Nat) : Int := (b : Int) / (Nat.gcd a b : Nat)

theorem low_facts {a b : Nat} (hb : 1 ≤ b) : (1 : Int) ≤ (Nat.gcd a b : Nat) ∧ 0 ≤ lowN a b ∧ lowN a b ≤ a ∧ 0 ≤ lowD a b ∧ lowD a b ≤ b := by
  have h1 := Nat.gcd_pos_of_pos_right a (show 0 < b by omega)
  unfold lowN lowD
  exact ⟨by omega, Int.ediv_nonneg (by omega) (by omega), Int.ediv_le_self _ (by omega), Int.ediv_nonneg (by omega) (by omega), Int.ediv_le_self _ (by omega)⟩

theorem lowest_any (a b : Nat) (w : World) (ha : a ≤ 1000000000000) (hb1 : 1 ≤ b) (hb : b ≤ 1000000000000) : Calls Try.prog 75 #[.int .i64 a, .int .i64 b] w fun e w' => e = .returned (.agg #[.int .i64 (lowN a b), .int .i64 (lowD a b)]) ∧ Below w.heap.size w w' := by
  obtain ⟨f1, f2, f3, f4, f5⟩ := low_facts (a := a) hb1
  unfold lowN at f2 f3
  unfold lowD at f4 f5
  have hbu := fun (w : World) => build_frac ((a : Int) / (Nat.gcd a b : Nat)) ((b : Int) / (Nat.gcd a b : Nat)) w
  go_enter Try.func75, Try.ntmps75
  go_wp2_with (go_at_call 80; refine (divisor_any a b _ ha hb).mono ?_; rintro e w' ⟨rfl, k, rfl⟩)
  go_region
  go_wp2
  go_returns
  exact ⟨rfl, by (repeat' (first | (with_reducible exact Below.refl _ _) | (with_reducible assumption) | (with_reducible refine Below.drew ?_) | (with_reducible refine below_drewN ?_ _) | (with_reducible refine Below.setCell ?_ ?_ _) | (with_reducible refine Below.alloc ?_ ?_ _) | go_size))⟩

theorem l02Make_any (a b : Nat) (w : World) (ha : a ≤ 1000000000000) (hb1 : 1 ≤ b) (hb : b ≤ 1000000000000) : Calls Try.prog 78 #[.int .i64 a, .int .i64 b] w fun e w' => e = .returned (.agg #[.int .i64 (lowN a b), .int .i64 (lowD a b)]) ∧ Below w.heap.size w w' := by
  obtain ⟨f1, f2, f3, f4, f5⟩ := low_facts (a := a) hb1
  unfold lowN at f2 f3
  unfold lowD at f4 f5
  have hbu := fun (w : World) => build_frac ((a : Int) / (Nat.gcd a b : Nat)) ((b : Int) / (Nat.gcd a b : Nat)) w
  go_enter Try.func78, Try.ntmps78
  go_wp2_with (first | (go_at_call 74; refine (l00Size_any a _ (by omega) (by omega)).mono ?_; rintro e w' ⟨rfl, rfl⟩) | (go_at_call 82; refine (l00Gcd_any a b _ ha hb).mono ?_; rintro e w' ⟨rfl, rfl⟩))
  go_region
  go_wp2
  go_returns
  exact ⟨rfl, by (repeat' (first | (with_reducible exact Below.refl _ _) | (with_reducible assumption) | (with_reducible refine Below.drew ?_) | (with_reducible refine below_drewN ?_ _) | (with_reducible refine Below.setCell ?_ ?_ _) | (with_reducible refine Below.alloc ?_ ?_ _) | go_size))⟩

theorem lowest_i (a b : Int) (w : World) (h0 : 0 ≤ a) (ha : a ≤ 1000000000000) (hb1 : 1 ≤ b) (hb : b ≤ 1000000000000) : Calls Try.prog 75 #[.int .i64 a, .int .i64 b] w fun e w' => e = .returned (.agg #[.int .i64 (lowN a.toNat b.toNat), .int .i64 (lowD a.toNat b.toNat)]) ∧ Below w.heap.size w w' := by
  obtain ⟨a, rfl⟩ := Int.eq_ofNat_of_zero_le h0
  obtain ⟨b, rfl⟩ := Int.eq_ofNat_of_zero_le (show 0 ≤ b by omega)
  exact lowest_any a b w (by omega) (by omega) (by omega)
theorem l02Make_i (a b : Int) (w : World) (h0 : 0 ≤ a) (ha : a ≤ 1000000000000) (hb1 : 1 ≤ b) (hb : b ≤ 1000000000000) : Calls Try.prog 78 #[.int .i64 a, .int .i64 b] w fun e w' => e = .returned (.agg #[.int .i64 (lowN a.toNat b.toNat), .int .i64 (lowD a.toNat b.toNat)]) ∧ Below w.heap.size w w' := by
  obtain ⟨a, rfl⟩ := Int.eq_ofNat_of_zero_le h0
  obtain ⟨b, rfl⟩ := Int.eq_ofNat_of_zero_le (show 0 ≤ b by omega)
  exact l02Make_any a b w (by omega) (by omega) (by omega)

theorem eqFraction_any (a b : Int) (w : World) : Calls Try.prog 47 #[.agg #[.int .i64 a, .int .i64 b], .agg #[.int .i64 a, .int .i64 b]] w fun e w' => e = .returned (.bool true) ∧ Below w.heap.size w w' := by
  go_enter Try.func47, Try.ntmps47
  go_wp2
  go_ret
  exact ⟨rfl, by go_grown⟩
end Go.Proofs.Ytkkipkmjhakknaa
