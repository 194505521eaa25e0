/- Contracts about rounds (courses): validity, lengths. -/
import Derived.Test.YtelbedmfnmjehaaBase
import Derived.Deep.RegionHeld3
namespace Go.Proofs.Ytelbedmfnmjehaa
open Go.RowKit
set_option linter.unusedVariables false
set_option linter.unusedSimpArgs false

theorem isThick_any (n : Int) (w : World) : Calls Try.prog 81 #[.int .i64 n] w fun e w' => e = .returned (.bool (inB n 1 300)) ∧ w = w' := by
  go_enter Try.func81, Try.ntmps81
  go_wp2_with (go_at_call 59; refine (within_any _ _ _ _).mono ?_; rintro e w' ⟨rfl, rfl⟩)
  go_ret
  exact ⟨rfl, rfl⟩

def okCourse (a t m : Int) : Bool := inB a 100 5000 && (inB t 1 300 && inB m 1 6)
theorem okCourse_iff (a t m : Int) : okCourse a t m = true ↔ (100 ≤ a ∧ a ≤ 5000) ∧ (1 ≤ t ∧ t ≤ 300) ∧ (1 ≤ m ∧ m ≤ 6) := by
  simp [okCourse, inB_iff]

theorem toCourse_any (f b s : Int) (w : World) : Calls Try.prog 15 #[.agg #[.int .i64 f, .int .i64 b, .int .i64 s]] w fun e w' => e = .returned (.agg #[.int .i64 f, .int .i64 b, .int .i64 s]) ∧ Below w.heap.size w w' := by
  go_enter Try.func15, Try.ntmps15
  go_wp2
  go_returns
  exact ⟨rfl, by go_grown⟩

theorem isCourse_any (a t m : Int) (w : World) : Calls Try.prog 54 #[.agg #[.int .i64 a, .int .i64 t, .int .i64 m]] w fun e w' => e = .returned (.bool (okCourse a t m)) ∧ Below w.heap.size w w' := by
  cases h1 : inB a 100 5000
  · go_enter Try.func54, Try.ntmps54
    go_wp2_with (first | (go_at_call 59; refine (within_any _ _ _ _).mono ?_; rintro e w' ⟨rfl, rfl⟩) | (go_at_call 81; refine (isThick_any _ _).mono ?_; rintro e w' ⟨rfl, rfl⟩))
    go_ret
    exact ⟨by simp [okCourse, h1], by go_grown⟩
  cases h2 : inB t 1 300
  · go_enter Try.func54, Try.ntmps54
    go_wp2_with (first | (go_at_call 59; refine (within_any _ _ _ _).mono ?_; rintro e w' ⟨rfl, rfl⟩) | (go_at_call 81; refine (isThick_any _ _).mono ?_; rintro e w' ⟨rfl, rfl⟩))
    go_ret
    exact ⟨by simp [okCourse, h1, h2], by go_grown⟩
  go_enter Try.func54, Try.ntmps54
  go_wp2_with (first | (go_at_call 59; refine (within_any _ _ _ _).mono ?_; rintro e w' ⟨rfl, rfl⟩) | (go_at_call 81; refine (isThick_any _ _).mono ?_; rintro e w' ⟨rfl, rfl⟩))
  go_ret
  exact ⟨by simp [okCourse, h1, h2], by go_grown⟩

theorem l13One_any (a t m : Int) (p : Nat) (o : Nat) (w : World) (h0 : w.cell? ⟨p, o, none⟩ = some (.int .i64 a)) (h1 : w.cell? ⟨p, o + 1, none⟩ = some (.int .i64 t)) (h2 : w.cell? ⟨p, o + 2, none⟩ = some (.int .i64 m)) :
    Calls Try.prog 50 #[.pointer (some ⟨p, o, none⟩)] w fun e w' => e = .returned (.bool (okCourse a t m)) ∧ w = w' := by
  cases g1 : inB a 100 5000
  · go_enter Try.func50, Try.ntmps50
    go_wp2_with (go_at_call 57; refine (l00In_any _ _ _ _).mono ?_; rintro e w' ⟨rfl, rfl⟩)
    go_ret
    exact ⟨by simp [okCourse, g1], rfl⟩
  cases g2 : inB t 1 300
  · go_enter Try.func50, Try.ntmps50
    go_wp2_with (go_at_call 57; refine (l00In_any _ _ _ _).mono ?_; rintro e w' ⟨rfl, rfl⟩)
    go_ret
    exact ⟨by simp [okCourse, g1, g2], rfl⟩
  go_enter Try.func50, Try.ntmps50
  go_wp2_with (go_at_call 57; refine (l00In_any _ _ _ _).mono ?_; rintro e w' ⟨rfl, rfl⟩)
  go_ret
  exact ⟨by simp [okCourse, g1, g2], rfl⟩

/-- How long one weaver is at most. -/
def mostL (a t s : Int) : Int := a + ovr (2 * t * s) 10
theorem mostL_bd {a t s : Int} (ha : 100 ≤ a ∧ a ≤ 5000) (ht : 1 ≤ t ∧ t ≤ 300) (hs : 3 ≤ s ∧ s ≤ 60) : 0 ≤ 2 * t * s ∧ 2 * t * s ≤ 36000 ∧ 100 ≤ mostL a t s ∧ mostL a t s ≤ 41000 := by
  have h := mulb (x := 2 * t) (y := s) (A := 600) (B := 60) (by omega) (by omega) (by omega) (by omega)
  have h2 := ovr_bd (a := 2 * t * s) (b := 10) h.1 (by omega)
  unfold mostL
  omega

theorem mostLength_any (a t m s : Int) (w : World) (ha : 100 ≤ a ∧ a ≤ 5000) (ht : 1 ≤ t ∧ t ≤ 300) (hs : 3 ≤ s ∧ s ≤ 60) :
    Calls Try.prog 56 #[.agg #[.int .i64 a, .int .i64 t, .int .i64 m], .int .i64 s] w fun e w' => e = .returned (.int .i64 (mostL a t s)) ∧ Below w.heap.size w w' := by
  obtain ⟨g1, g2, g3, g4⟩ := mostL_bd ha ht hs
  have g5 := ovr_bd (a := 2 * t * s) (b := 10) g1 (by omega)
  go_enter Try.func56, Try.ntmps56
  go_wp2
  go_quiet ((go_at_call 61; exact Calls.quiet_of_same ((over_any _ _ _ g1 (by omega) (by omega)).mono fun _ _ ⟨a, b⟩ => ⟨a, b.symm⟩)))
  go_wp2
  go_ret
  exact ⟨rfl, below_drewN (by go_grown) _⟩

theorem l13Low_any (a t m : Int) (p o : Nat) (w : World) (h0 : w.cell? ⟨p, o, none⟩ = some (.int .i64 a)) (h1 : w.cell? ⟨p, o + 1, none⟩ = some (.int .i64 t)) (h2 : w.cell? ⟨p, o + 2, none⟩ = some (.int .i64 m))
    (ha : 100 ≤ a ∧ a ≤ 5000) (hm : 1 ≤ m ∧ m ≤ 6) :
    Calls Try.prog 52 #[.pointer (some ⟨p, o, none⟩)] w fun e w' => e = .returned (.int .i64 (m * a)) ∧ ∃ n, w' = w.drewN n := by
  have h := mulb (x := m) (y := a) (A := 6) (B := 5000) (by omega) (by omega) (by omega) (by omega)
  go_enter Try.func52, Try.ntmps52
  go_wp2
  go_quiet (fail)
  go_wp2
  go_ret
  exact ⟨rfl, _, rfl⟩

theorem l13High_any (a t m s : Int) (p o : Nat) (w : World) (h0 : w.cell? ⟨p, o, none⟩ = some (.int .i64 a)) (h1 : w.cell? ⟨p, o + 1, none⟩ = some (.int .i64 t)) (h2 : w.cell? ⟨p, o + 2, none⟩ = some (.int .i64 m))
    (ha : 100 ≤ a ∧ a ≤ 5000) (ht : 1 ≤ t ∧ t ≤ 300) (hm : 1 ≤ m ∧ m ≤ 6) (hs : 3 ≤ s ∧ s ≤ 60) :
    Calls Try.prog 53 #[.pointer (some ⟨p, o, none⟩), .int .i64 s] w fun e w' => e = .returned (.int .i64 (m * mostL a t s)) ∧ ∃ n, w' = w.drewN n := by
  obtain ⟨g1, g2, g3, g4⟩ := mostL_bd ha ht hs
  have hv : mostL a t s = a + (2 * t * s + 9) / 10 := by unfold mostL; rw [ovr_eq (by omega)]; omega
  rw [hv] at g3 g4 ⊢
  clear hv
  have h := mulb (x := m) (y := a + (2 * t * s + 9) / 10) (A := 6) (B := 41000) (by omega) (by omega) (by omega) (by omega)
  go_enter Try.func53, Try.ntmps53
  go_wp2
  go_quiet (fail)
  go_wp2
  go_ret
  exact ⟨rfl, _, rfl⟩
end Go.Proofs.Ytelbedmfnmjehaa
