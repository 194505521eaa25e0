/- ValidBroken. -/
import Derived.Test.YtniifpfhfpcmcaaRise
namespace Go.Proofs.Ytniifpfhfpcmcaa
open Go.RowKit
set_option linter.unusedVariables false
set_option linter.unusedSimpArgs false

theorem l06Stakes_any (n : Int) (w : World) : Calls Try.prog 62 #[.int .i64 n] w fun e w' => e = .returned (.bool (inB n 3 60)) ∧ w = w' := by
  go_enter Try.func62, Try.ntmps62
  go_wp2_with (go_at_call 57; refine (l00In_any _ _ _ _).mono ?_; rintro e w' ⟨rfl, rfl⟩)
  go_ret
  exact ⟨rfl, rfl⟩

/-- Stakes and broken ones are valid. -/
def okBrok (s : Int) (zs : List Int) : Bool := inB s 3 60 && risesB zs 0 (s - 1)

theorem implValidBroken_any (s : Int) (A : Option Addr) (n c : Nat) (zs : List Int) (w : World) (h : Ints w A n zs) (hn : n ≤ 1048576) : Calls Try.prog 15 #[.int .i64 s, .slice A n c] w fun e w' =>
    e = .returned (.bool (okBrok s zs)) ∧ ∃ q, w' = w.drewN q := by
  cases h1 : inB s 3 60
  · go_enter Try.func15, Try.ntmps15
    go_wp2_with (go_at_call 42; refine (areStakes_any _ _).mono ?_; rintro e w' ⟨rfl, rfl⟩)
    go_ret
    exact ⟨by simp [okBrok, h1], 0, rfl⟩
  · have i1 := (inB_iff _ _ _).1 h1
    go_enter Try.func15, Try.ntmps15
    go_wp2_with (first | (go_at_call 42; refine (areStakes_any _ _).mono ?_; rintro e w' ⟨rfl, rfl⟩) | (go_at_call 43; refine (rises_any _ _ _ _ _ _ _ h hn).mono ?_; rintro e w' ⟨rfl, q, rfl⟩))
    go_ret
    exact ⟨by simp [okBrok, h1], _, rfl⟩
theorem l16Ok_any (s : Int) (A : Option Addr) (n c : Nat) (zs : List Int) (w : World) (h : Ints w A n zs) (hn : n ≤ 1048576) : Calls Try.prog 41 #[.int .i64 s, .slice A n c] w fun e w' =>
    e = .returned (.bool (okBrok s zs)) ∧ ∃ q, w' = w.drewN q := by
  cases h1 : inB s 3 60
  · go_enter Try.func41, Try.ntmps41
    go_wp2_with (go_at_call 62; refine (l06Stakes_any _ _).mono ?_; rintro e w' ⟨rfl, rfl⟩)
    go_ret
    exact ⟨by simp [okBrok, h1], 0, rfl⟩
  · have i1 := (inB_iff _ _ _).1 h1
    go_enter Try.func41, Try.ntmps41
    go_wp2_with (first | (go_at_call 62; refine (l06Stakes_any _ _).mono ?_; rintro e w' ⟨rfl, rfl⟩) | (go_at_call 54; refine (l00Rises_any _ _ _ _ _ _ _ h hn).mono ?_; rintro e w' ⟨rfl, q, rfl⟩))
    go_ret
    exact ⟨by simp [okBrok, h1], _, rfl⟩
theorem specValidBroken_any (s : Int) (A : Option Addr) (n c : Nat) (zs : List Int) (w : World) (h : Ints w A n zs) (hn : n ≤ 1048576) : Calls Try.prog 13 #[.int .i64 s, .slice A n c] w fun e w' =>
    e = .returned (.bool (okBrok s zs)) ∧ ∃ q, w' = w.drewN q := by
  go_enter Try.func13, Try.ntmps13
  go_wp2_with (go_at_call 41; refine (l16Ok_any _ _ _ _ _ _ h hn).mono ?_; rintro e w' ⟨rfl, q, rfl⟩)
  go_ret
  exact ⟨rfl, _, rfl⟩

theorem law_FnExactValidBroken (w : World) (s : Int) (_ : (Lit.int .i64 s).wf = true) (A : Option Addr) (n c : Nat) (zs : List Int) (h0 : IsInts .i64 w A n zs) : Calls Try.prog 3 #[.int .i64 s, .slice A n c] w fun e w' => e = .returned (.bool true) ∧ Below w.heap.size w w' := by
  have hm := h0.1
  unfold maxLen at hm
  by_cases hbig : 1048576 < n
  · have h' : (1048576 : Int) < (n : Int) := by omega
    go_enter Try.func3, Try.ntmps3
    go_wp2
    go_ret
    exact ⟨rfl, Below.refl _ _⟩
  have hn : n ≤ 1048576 := by omega
  have h' : ¬ (1048576 : Int) < (n : Int) := by omega
  have h := h0.ints
  go_enter Try.func3, Try.ntmps3
  go_wp2_with fail
  refine (toInt64S_any _ _ _ _ _ h hn).mono ?_
  rintro e w1 ⟨rfl, ho1, hb1⟩
  go_wp2_with fail
  refine (specValidBroken_any _ _ _ _ _ _ ho1.ints hn).mono ?_
  rintro e w' ⟨rfl, q1, rfl⟩
  have hb2 : Below w.heap.size w (w1.drewN q1) := below_drewN hb1 _
  go_wp2_with fail
  refine (toInt64S_any _ _ _ _ _ (h.keep hb2) hn).mono ?_
  rintro e w3 ⟨rfl, ho3, hb3⟩
  have hb4 := belowT hb3 hb2
  go_wp2_with fail
  refine (implValidBroken_any _ _ _ _ _ _ ho3.ints hn).mono ?_
  rintro e w' ⟨rfl, q2, rfl⟩
  have hb5 : Below w.heap.size w (w3.drewN q2) := below_drewN hb4 _
  go_wp2_with fail
  refine (toInt64S_any _ _ _ _ _ (h.keep hb5) hn).mono ?_
  rintro e w6 ⟨rfl, ho6, hb6⟩
  have hb7 := belowT hb6 hb5
  go_wp2_with fail
  refine (eqInt64S_any _ _ _ _ _ _ _ _ _ (Ints.keep (ho3.ints.drewN q2) hb6) ho6.ints hn hn).mono ?_
  rintro e w' ⟨rfl, q3, rfl⟩
  go_wp2
  go_ret
  exact ⟨by simp, below_drewN hb7 _⟩
end Go.Proofs.Ytniifpfhfpcmcaa
