/- Contracts about seats. -/
import Derived.Test.YtgjjmgneekjapaaBase
namespace Go.Proofs.Ytgjjmgneekjapaa
open Go.RowKit
set_option linter.unusedVariables false
set_option linter.unusedSimpArgs false

def okSeat (f b s : Int) : Bool := inB f 3 40 && (inB b 3 f && (inB s 3 40 && ((f - b) % 2 == 0)))
theorem okSeat_iff (f b s : Int) : okSeat f b s = true ↔ (3 ≤ f ∧ f ≤ 40) ∧ (3 ≤ b ∧ b ≤ f) ∧ (3 ≤ s ∧ s ≤ 40) ∧ (f - b) % 2 = 0 := by
  simp [okSeat, inB_iff]

theorem validSeat_any (f b s : Int) (w : World) : Calls Try.prog 15 #[.agg #[.int .i64 f, .int .i64 b, .int .i64 s]] w fun e w' => e = .returned (.bool (okSeat f b s)) ∧ Below w.heap.size w w' := by
  cases h1 : inB f 3 40
  · go_enter Try.func15, Try.ntmps15
    go_wp2_with (go_at_call 43; refine (within_any _ _ _ _).mono ?_; rintro e w' ⟨rfl, rfl⟩)
    go_ret
    exact ⟨by simp [okSeat, h1], (Below.refl _ _).alloc (Nat.le_refl _) _⟩
  cases h2 : inB b 3 f
  · go_enter Try.func15, Try.ntmps15
    go_wp2_with (go_at_call 43; refine (within_any _ _ _ _).mono ?_; rintro e w' ⟨rfl, rfl⟩)
    go_ret
    exact ⟨by simp [okSeat, h1, h2], (Below.refl _ _).alloc (Nat.le_refl _) _⟩
  cases h3 : inB s 3 40
  · go_enter Try.func15, Try.ntmps15
    go_wp2_with (go_at_call 43; refine (within_any _ _ _ _).mono ?_; rintro e w' ⟨rfl, rfl⟩)
    go_ret
    exact ⟨by simp [okSeat, h1, h2, h3], (Below.refl _ _).alloc (Nat.le_refl _) _⟩
  have i1 := (inB_iff _ _ _).1 h1
  have i2 := (inB_iff _ _ _).1 h2
  go_enter Try.func15, Try.ntmps15
  go_wp2_with (go_at_call 43; refine (within_any _ _ _ _).mono ?_; rintro e w' ⟨rfl, rfl⟩)
  go_ret
  exact ⟨by simp [okSeat, h1, h2, h3], (Below.refl _ _).alloc (Nat.le_refl _) _⟩

theorem l15Ok_any (f b s : Int) (p : Nat) (w : World) (h0 : w.cell? ⟨p, 0, none⟩ = some (.int .i64 f)) (h1 : w.cell? ⟨p, 1, none⟩ = some (.int .i64 b)) (h2 : w.cell? ⟨p, 2, none⟩ = some (.int .i64 s)) :
    Calls Try.prog 42 #[.pointer (some ⟨p, 0, none⟩)] w fun e w' => e = .returned (.bool (okSeat f b s)) ∧ ∃ n, w' = w.drewN n := by
  cases g1 : inB f 3 40
  · go_enter Try.func42, Try.ntmps42
    go_wp2_with fail
    go_quiet ((go_at_call 45; exact Calls.quiet_of_same (l00In_eq _ _ _ _ _ (by assumption))))
    go_wp2
    go_ret
    exact ⟨by simp [okSeat, g1], _, rfl⟩
  cases g2 : inB b 3 f
  · go_enter Try.func42, Try.ntmps42
    go_wp2_with fail
    go_quiet ((go_at_call 45; exact Calls.quiet_of_same (l00In_eq _ _ _ _ _ (by assumption))))
    go_wp2
    go_ret
    exact ⟨by simp [okSeat, g1, g2], _, rfl⟩
  cases g3 : inB s 3 40
  · go_enter Try.func42, Try.ntmps42
    go_wp2_with fail
    go_quiet ((go_at_call 45; exact Calls.quiet_of_same (l00In_eq _ _ _ _ _ (by assumption))))
    go_wp2
    go_ret
    exact ⟨by simp [okSeat, g1, g2, g3], _, rfl⟩
  have i1 := (inB_iff _ _ _).1 g1
  have i2 := (inB_iff _ _ _).1 g2
  go_enter Try.func42, Try.ntmps42
  go_wp2_with fail
  go_quiet ((go_at_call 45; exact Calls.quiet_of_same (l00In_eq _ _ _ _ _ (by assumption))))
  go_wp2
  go_ret
  exact ⟨by simp [okSeat, g1, g2, g3], _, rfl⟩

theorem toSeat_any (f b s : Int) (w : World) : Calls Try.prog 14 #[.agg #[.int .i64 f, .int .i64 b, .int .i64 s]] w fun e w' => e = .returned (.agg #[.int .i64 f, .int .i64 b, .int .i64 s]) ∧ Below w.heap.size w w' := by
  go_enter Try.func14, Try.ntmps14
  go_wp2
  go_returns
  exact ⟨rfl, by go_grown⟩

theorem specValidSeat_any (f b s : Int) (w : World) : Calls Try.prog 13 #[.agg #[.int .i64 f, .int .i64 b, .int .i64 s]] w fun e w' => e = .returned (.bool (okSeat f b s)) ∧ Below w.heap.size w w' := by
  go_enter Try.func13, Try.ntmps13
  go_wp2_with (go_at_call 42; refine (l15Ok_any f b s _ _ (by go_cell) (by go_cell) (by go_cell)).mono ?_; rintro e w' ⟨rfl, n, rfl⟩)
  go_ret
  exact ⟨rfl, below_drewN (by go_grown) _⟩

theorem law_FnExactValidSeat (f : Int) (_ : (Lit.int .i64 f).wf = true) (b : Int) (_ : (Lit.int .i64 b).wf = true) (s : Int) (_ : (Lit.int .i64 s).wf = true) (w : World) : Calls Try.prog 3 #[.agg #[.int .i64 f, .int .i64 b, .int .i64 s]] w fun e w' => e = .returned (.bool true) ∧ Below w.heap.size w w' := by
  go_enter Try.func3, Try.ntmps3
  go_wp2_with fail
  refine (toSeat_any _ _ _ _).mono ?_
  rintro e w1 ⟨rfl, hb1⟩
  go_wp2_with fail
  refine (specValidSeat_any _ _ _ _).mono ?_
  rintro e w2 ⟨rfl, hb2⟩
  have hb := hb1.trans (hb2.mono hb1.size)
  obtain ⟨hc, hf⟩ := bcell hb
  go_wp2_with fail
  refine (toSeat_any _ _ _ _).mono ?_
  rintro e w3 ⟨rfl, hb3⟩
  go_wp2_with fail
  refine (validSeat_any _ _ _ _).mono ?_
  rintro e w4 ⟨rfl, hb4⟩
  go_wp2
  go_ret
  refine ⟨rfl, ?_⟩
  have hb5 := (hb.trans (hb3.mono hb.size)).trans (hb4.mono (hb.trans (hb3.mono hb.size)).size)
  exact ((Below.refl _ _).alloc (Nat.le_refl _) _).trans (hb5.mono (by simp))

def holesV (f b s : Int) : Int × Int := if okSeat f b s then (f + b + 2 * s, 0) else (0, 1)

theorem implHolesOf_any (f b s : Int) (w : World) : Calls Try.prog 17 #[.agg #[.int .i64 f, .int .i64 b, .int .i64 s]] w fun e w' => e = .returned (.tuple #[.int .i64 (holesV f b s).1, .int .i64 (holesV f b s).2]) ∧ Below w.heap.size w w' := by
  cases h : okSeat f b s
  · have hv : holesV f b s = (0, 1) := by simp [holesV, h]
    rw [hv]
    clear hv
    go_enter Try.func17, Try.ntmps17
    go_wp2_with fail
    refine (validSeat_any _ _ _ _).mono ?_
    rintro e w1 ⟨rfl, hb1⟩
    go_wp2
    go_ret2
    exact ⟨rfl, ((Below.refl _ _).alloc (Nat.le_refl _) _).trans (hb1.mono (by simp))⟩
  · have i1 := (okSeat_iff _ _ _).1 h
    have hv : holesV f b s = (f + b + 2 * s, 0) := by simp [holesV, h]
    rw [hv]
    clear hv
    go_enter Try.func17, Try.ntmps17
    go_wp2_with fail
    refine (validSeat_any _ _ _ _).mono ?_
    rintro e w1 ⟨rfl, hb1⟩
    obtain ⟨hc, hf⟩ := bcell hb1
    go_wp2
    go_ret2
    exact ⟨rfl, ((Below.refl _ _).alloc (Nat.le_refl _) _).trans (hb1.mono (by simp))⟩

theorem specHolesOf_any (f b s : Int) (w : World) : Calls Try.prog 16 #[.agg #[.int .i64 f, .int .i64 b, .int .i64 s]] w fun e w' => e = .returned (.tuple #[.int .i64 (holesV f b s).1, .int .i64 (holesV f b s).2]) ∧ Below w.heap.size w w' := by
  cases h : okSeat f b s
  · have hv : holesV f b s = (0, 1) := by simp [holesV, h]
    rw [hv]
    clear hv
    go_enter Try.func16, Try.ntmps16
    go_wp2_with (go_at_call 42; refine (l15Ok_any f b s _ _ (by go_cell) (by go_cell) (by go_cell)).mono ?_; rintro e w' ⟨rfl, n, rfl⟩)
    go_ret2
    exact ⟨rfl, below_drewN (by go_grown) _⟩
  · have i1 := (okSeat_iff _ _ _).1 h
    have hv : holesV f b s = (f + b + 2 * s, 0) := by simp [holesV, h]
    rw [hv]
    clear hv
    go_enter Try.func16, Try.ntmps16
    go_wp2_with (go_at_call 42; refine (l15Ok_any f b s _ _ (by go_cell) (by go_cell) (by go_cell)).mono ?_; rintro e w' ⟨rfl, n, rfl⟩)
    go_ret2
    exact ⟨rfl, below_drewN (by go_grown) _⟩

theorem law_FnExactHolesOf (f : Int) (_ : (Lit.int .i64 f).wf = true) (b : Int) (_ : (Lit.int .i64 b).wf = true) (s : Int) (_ : (Lit.int .i64 s).wf = true) (w : World) : Calls Try.prog 4 #[.agg #[.int .i64 f, .int .i64 b, .int .i64 s]] w fun e w' => e = .returned (.bool true) ∧ Below w.heap.size w w' := by
  go_enter Try.func4, Try.ntmps4
  go_wp2_with fail
  refine (toSeat_any _ _ _ _).mono ?_
  rintro e w1 ⟨rfl, hb1⟩
  go_wp2_with fail
  refine (specHolesOf_any _ _ _ _).mono ?_
  rintro e w2 ⟨rfl, hb2⟩
  have hb := hb1.trans (hb2.mono hb1.size)
  obtain ⟨hc, hf⟩ := bcell hb
  go_wp2_with fail
  refine (toSeat_any _ _ _ _).mono ?_
  rintro e w3 ⟨rfl, hb3⟩
  go_wp2_with fail
  refine (implHolesOf_any _ _ _ _).mono ?_
  rintro e w4 ⟨rfl, hb4⟩
  go_wp2
  go_ret
  refine ⟨rfl, ?_⟩
  have hb5 := (hb.trans (hb3.mono hb.size)).trans (hb4.mono (hb.trans (hb3.mono hb.size)).size)
  exact ((Below.refl _ _).alloc (Nat.le_refl _) _).trans (hb5.mono (by simp))
end Go.Proofs.Ytgjjmgneekjapaa
