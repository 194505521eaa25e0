/- Contracts: a2Long, a2At. -/
import Derived.Test.YtkkipkmjhakknaaSrc
namespace Go.Proofs.Ytkkipkmjhakknaa
open Go.RowKit
set_option linter.unusedVariables false
set_option linter.unusedSimpArgs false

theorem a2Long_any (A B : Option Addr) (n c m d : Nat) (v : Bool) (w : World) (hn : n ≤ maxLen) (hm : m ≤ maxLen) (hv : decide (3000 < n ∨ 3000 < m) = v) : Calls Try.prog 14 #[.slice A n c, .slice B m d] w fun e w' => e = .returned (.bool v) ∧ w = w' := by
  unfold maxLen at hn hm
  subst hv
  by_cases h1 : 3000 < n
  · rw [decide_eq_true (show 3000 < n ∨ 3000 < m from .inl h1)]
    have t1 : (3000 : Int) < (n : Int) := by omega
    clear h1
    go_enter Try.func14, Try.ntmps14
    go_wp2
    go_ret
    exact ⟨rfl, rfl⟩
  have t1 : ¬ (3000 : Int) < (n : Int) := by omega
  by_cases h2 : 3000 < m
  · rw [decide_eq_true (show 3000 < n ∨ 3000 < m from .inr h2)]
    have t2 : (3000 : Int) < (m : Int) := by omega
    clear h1 h2
    go_enter Try.func14, Try.ntmps14
    go_wp2
    go_ret
    exact ⟨rfl, rfl⟩
  · have t2 : ¬ (3000 : Int) < (m : Int) := by omega
    rw [decide_eq_false (by omega)]
    clear h1 h2
    go_enter Try.func14, Try.ntmps14
    go_wp2
    go_ret
    exact ⟨rfl, rfl⟩
/-- A number from 0 to n - 1, the world left alone. -/
def At (n : Int) (w : World) (e : Ending) (w' : World) : Prop := ∃ v : Int, e = .returned (.int .i64 v) ∧ 0 ≤ v ∧ v ≤ max 0 (n - 1) ∧ w = w'
theorem a2At_any (A : Option Addr) (l c : Nat) (i : Nat) (n : Int) (base : Nat) (w : World) (h : Bytes w base A l) (n1 : n ≤ 1000000000) (hi : i ≤ 1000) : Calls Try.prog 17 #[.slice A l c, .int .i64 i, .int .i64 n] w (At n w) := by
  have hl := h.1
  unfold maxLen at hl
  by_cases h1 : l ≤ i
  · have t1 : (l : Int) ≤ (i : Int) := by omega
    go_enter Try.func17, Try.ntmps17
    go_wp2
    go_ret
    exact ⟨0, rfl, by omega, by omega, rfl⟩
  have t1 : ¬ (l : Int) ≤ (i : Int) := by omega
  by_cases h2 : n < 1
  · go_enter Try.func17, Try.ntmps17
    go_wp2
    go_ret
    exact ⟨0, rfl, by omega, by omega, rfl⟩
  obtain ⟨b, off, rfl, hbl, hcs⟩ := h.2 (by omega)
  obtain ⟨x, hx, x0, x1⟩ := hcs i (by omega)
  have i0 : (0 : Int) ≤ (i : Int) := by omega
  have i1 : (i : Int) < (l : Int) := by omega
  have n2 : 1 ≤ n := by omega
  have m0 := Int.emod_nonneg x (show n ≠ 0 by omega)
  have m1 := Int.emod_lt_of_pos x (show 0 < n by omega)
  go_enter Try.func17, Try.ntmps17
  go_wp2
  go_ret
  exact ⟨_, rfl, m0, by omega, rfl⟩
end Go.Proofs.Ytkkipkmjhakknaa
