/- slices.Contains at int64. -/
import Derived.Test.YtniifpfhfpcmcaaIntR
import Derived.Test.YtniifpfhfpcmcaaBrok
namespace Go.Proofs.Ytniifpfhfpcmcaa
open Go.RowKit
set_option linter.unusedVariables false
set_option linter.unusedSimpArgs false

theorem index_any (A : Option Addr) (n c : Nat) (gs : List Int) (z : Int) (w : World) (h : Ints w A n gs) (hn : n ≤ 1048576) : Calls Try.prog 65 #[.slice A n c, .int .i64 z] w fun e w' =>
    ∃ v : Int, e = .returned (.int .i64 v) ∧ w = w' ∧ decide (0 ≤ v) = hasI gs z := by
  have HL := Lib.hid h.1
  go_enter Try.func65, Try.ntmps65
  go_wp2
  go_loop [8] (fun i => ∃ k : Nat, k ≤ n ∧ i = .int .i64 k ∧ NoTill gs z k) (fun i => n - (intOf i).toNat)
  case atStart => exact ⟨0, Nat.zero_le _, rfl, fun _ h => absurd h (by omega)⟩
  case round =>
    obtain ⟨k, hk, rfl, he⟩ := hrel
    by_cases hlt : k < n
    · obtain ⟨b, off, y, rfl, hblt, hy, hcy⟩ := h.at_ hlt
      have Hy := Lib.hid hy
      clear hy
      by_cases e : y = z
      · have ht : (z == y) = true := by rw [beq_iff_eq]; exact e.symm
        have E := Lib.hid e
        clear e
        go_wp2
        go_ret
        exact ⟨_, rfl, rfl, by rw [hasI_yes Hy.out E.out]; simp⟩
      · have ht : (z == y) = false := by rw [beq_eq_false_iff_ne]; exact fun h => e h.symm
        go_wp2
        go_round
        case rel => exact ⟨k + 1, by omega, by go_num, noTill_succ he Hy.out e⟩
        case measure => simp [intOf]; omega
    · obtain rfl : k = n := by omega
      go_wp2
      go_ret
      exact ⟨_, rfl, rfl, by rw [hasI_no HL.out he]; simp⟩
theorem contains_eq (A : Option Addr) (n c : Nat) (gs : List Int) (z : Int) (v : Bool) (w : World) (h : Ints w A n gs) (hn : n ≤ 1048576) (hv : hasI gs z = v) : Calls Try.prog 47 #[.slice A n c, .int .i64 z] w fun e w' =>
    e = .returned (.bool v) ∧ w = w' := by
  subst hv
  go_enter Try.func47, Try.ntmps47
  go_wp2_with (go_at_call 65; refine (index_any _ _ _ _ _ _ h hn).mono ?_; rintro e w' ⟨v, rfl, rfl, hv⟩)
  go_ret
  exact ⟨rfl, rfl⟩
end Go.Proofs.Ytniifpfhfpcmcaa
