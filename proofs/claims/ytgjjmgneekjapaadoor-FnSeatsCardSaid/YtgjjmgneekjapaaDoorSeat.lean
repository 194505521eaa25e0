/- Contracts about seats. -/
import Derived.Test.YtgjjmgneekjapaaDoorBase
namespace Go.Proofs.YtgjjmgneekjapaaDoor
open Go.RowKit
set_option linter.unusedVariables false
set_option linter.unusedSimpArgs false

def okSeat (f b s : Int) : Bool := inB f 3 40 && (inB b 3 f && (inB s 3 40 && ((f - b) % 2 == 0)))
theorem okSeat_iff (f b s : Int) : okSeat f b s = true ↔ (3 ≤ f ∧ f ≤ 40) ∧ (3 ≤ b ∧ b ≤ f) ∧ (3 ≤ s ∧ s ≤ 40) ∧ (f - b) % 2 = 0 := by
  simp [okSeat, inB_iff]

theorem validSeat_any (f b s : Int) (w : World) : Calls Tryd.prog 24 #[.agg #[.int .i64 f, .int .i64 b, .int .i64 s]] w fun e w' => e = .returned (.bool (okSeat f b s)) ∧ Below w.heap.size w w' := by
  cases h1 : inB f 3 40
  · go_enter Tryd.func24, Tryd.ntmps24
    go_wp2_with (go_at_call 31; refine (within_any _ _ _ _).mono ?_; rintro e w' ⟨rfl, rfl⟩)
    go_ret
    exact ⟨by simp [okSeat, h1], (Below.refl _ _).alloc (Nat.le_refl _) _⟩
  cases h2 : inB b 3 f
  · go_enter Tryd.func24, Tryd.ntmps24
    go_wp2_with (go_at_call 31; refine (within_any _ _ _ _).mono ?_; rintro e w' ⟨rfl, rfl⟩)
    go_ret
    exact ⟨by simp [okSeat, h1, h2], (Below.refl _ _).alloc (Nat.le_refl _) _⟩
  cases h3 : inB s 3 40
  · go_enter Tryd.func24, Tryd.ntmps24
    go_wp2_with (go_at_call 31; refine (within_any _ _ _ _).mono ?_; rintro e w' ⟨rfl, rfl⟩)
    go_ret
    exact ⟨by simp [okSeat, h1, h2, h3], (Below.refl _ _).alloc (Nat.le_refl _) _⟩
  have i1 := (inB_iff _ _ _).1 h1
  have i2 := (inB_iff _ _ _).1 h2
  go_enter Tryd.func24, Tryd.ntmps24
  go_wp2_with (go_at_call 31; refine (within_any _ _ _ _).mono ?_; rintro e w' ⟨rfl, rfl⟩)
  go_ret
  exact ⟨by simp [okSeat, h1, h2, h3], (Below.refl _ _).alloc (Nat.le_refl _) _⟩

theorem l15Ok_any (f b s : Int) (p : Nat) (w : World) (h0 : w.cell? ⟨p, 0, none⟩ = some (.int .i64 f)) (h1 : w.cell? ⟨p, 1, none⟩ = some (.int .i64 b)) (h2 : w.cell? ⟨p, 2, none⟩ = some (.int .i64 s)) :
    Calls Tryd.prog 27 #[.pointer (some ⟨p, 0, none⟩)] w fun e w' => e = .returned (.bool (okSeat f b s)) ∧ ∃ n, w' = w.drewN n := by
  cases g1 : inB f 3 40
  · go_enter Tryd.func27, Tryd.ntmps27
    go_wp2_with fail
    go_quiet ((go_at_call 38; exact Calls.quiet_of_same (l00In_eq _ _ _ _ _ (by assumption))))
    go_wp2
    go_ret
    exact ⟨by simp [okSeat, g1], _, rfl⟩
  cases g2 : inB b 3 f
  · go_enter Tryd.func27, Tryd.ntmps27
    go_wp2_with fail
    go_quiet ((go_at_call 38; exact Calls.quiet_of_same (l00In_eq _ _ _ _ _ (by assumption))))
    go_wp2
    go_ret
    exact ⟨by simp [okSeat, g1, g2], _, rfl⟩
  cases g3 : inB s 3 40
  · go_enter Tryd.func27, Tryd.ntmps27
    go_wp2_with fail
    go_quiet ((go_at_call 38; exact Calls.quiet_of_same (l00In_eq _ _ _ _ _ (by assumption))))
    go_wp2
    go_ret
    exact ⟨by simp [okSeat, g1, g2, g3], _, rfl⟩
  have i1 := (inB_iff _ _ _).1 g1
  have i2 := (inB_iff _ _ _).1 g2
  go_enter Tryd.func27, Tryd.ntmps27
  go_wp2_with fail
  go_quiet ((go_at_call 38; exact Calls.quiet_of_same (l00In_eq _ _ _ _ _ (by assumption))))
  go_wp2
  go_ret
  exact ⟨by simp [okSeat, g1, g2, g3], _, rfl⟩

theorem toSeat_any (f b s : Int) (w : World) : Calls Tryd.prog 6 #[.agg #[.int .i64 f, .int .i64 b, .int .i64 s]] w fun e w' => e = .returned (.agg #[.int .i64 f, .int .i64 b, .int .i64 s]) ∧ Below w.heap.size w w' := by
  go_enter Tryd.func6, Tryd.ntmps6
  go_wp2
  go_returns
  exact ⟨rfl, by go_grown⟩

theorem specValidSeat_any (f b s : Int) (w : World) : Calls Tryd.prog 25 #[.agg #[.int .i64 f, .int .i64 b, .int .i64 s]] w fun e w' => e = .returned (.bool (okSeat f b s)) ∧ Below w.heap.size w w' := by
  go_enter Tryd.func25, Tryd.ntmps25
  go_wp2_with (go_at_call 27; refine (l15Ok_any f b s _ _ (by go_cell) (by go_cell) (by go_cell)).mono ?_; rintro e w' ⟨rfl, n, rfl⟩)
  go_ret
  exact ⟨rfl, below_drewN (by go_grown) _⟩


def holesV (f b s : Int) : Int × Int := if okSeat f b s then (f + b + 2 * s, 0) else (0, 1)

theorem implHolesOf_any (f b s : Int) (w : World) : Calls Tryd.prog 18 #[.agg #[.int .i64 f, .int .i64 b, .int .i64 s]] w fun e w' => e = .returned (.tuple #[.int .i64 (holesV f b s).1, .int .i64 (holesV f b s).2]) ∧ Below w.heap.size w w' := by
  cases h : okSeat f b s
  · have hv : holesV f b s = (0, 1) := by simp [holesV, h]
    rw [hv]
    clear hv
    go_enter Tryd.func18, Tryd.ntmps18
    go_wp2_with fail
    refine (validSeat_any _ _ _ _).mono ?_
    rintro e w1 ⟨rfl, hb1⟩
    go_wp2
    go_ret2
    exact ⟨rfl, ((Below.refl _ _).alloc (Nat.le_refl _) _).trans (hb1.mono (by simp))⟩
  · have i1 := (okSeat_iff _ _ _).1 h
    have hv : holesV f b s = (f + b + 2 * s, 0) := by simp [holesV, h]
    rw [hv]
    clear hv
    go_enter Tryd.func18, Tryd.ntmps18
    go_wp2_with fail
    refine (validSeat_any _ _ _ _).mono ?_
    rintro e w1 ⟨rfl, hb1⟩
    obtain ⟨hc, hf⟩ := bcell hb1
    go_wp2
    go_ret2
    exact ⟨rfl, ((Below.refl _ _).alloc (Nat.le_refl _) _).trans (hb1.mono (by simp))⟩

theorem specHolesOf_any (f b s : Int) (w : World) : Calls Tryd.prog 19 #[.agg #[.int .i64 f, .int .i64 b, .int .i64 s]] w fun e w' => e = .returned (.tuple #[.int .i64 (holesV f b s).1, .int .i64 (holesV f b s).2]) ∧ Below w.heap.size w w' := by
  cases h : okSeat f b s
  · have hv : holesV f b s = (0, 1) := by simp [holesV, h]
    rw [hv]
    clear hv
    go_enter Tryd.func19, Tryd.ntmps19
    go_wp2_with (go_at_call 27; refine (l15Ok_any f b s _ _ (by go_cell) (by go_cell) (by go_cell)).mono ?_; rintro e w' ⟨rfl, n, rfl⟩)
    go_ret2
    exact ⟨rfl, below_drewN (by go_grown) _⟩
  · have i1 := (okSeat_iff _ _ _).1 h
    have hv : holesV f b s = (f + b + 2 * s, 0) := by simp [holesV, h]
    rw [hv]
    clear hv
    go_enter Tryd.func19, Tryd.ntmps19
    go_wp2_with (go_at_call 27; refine (l15Ok_any f b s _ _ (by go_cell) (by go_cell) (by go_cell)).mono ?_; rintro e w' ⟨rfl, n, rfl⟩)
    go_ret2
    exact ⟨rfl, below_drewN (by go_grown) _⟩


end Go.Proofs.YtgjjmgneekjapaaDoor
