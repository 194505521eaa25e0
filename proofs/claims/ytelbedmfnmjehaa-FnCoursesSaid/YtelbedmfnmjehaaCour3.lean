/- Contracts about single rounds: CoursesFor, RodsFor. -/
import Derived.Test.YtelbedmfnmjehaaCour2
namespace Go.Proofs.Ytelbedmfnmjehaa
open Go.RowKit
set_option linter.unusedVariables false
set_option linter.unusedSimpArgs false

theorem isPacked_any (n : Int) (w : World) : Calls Try.prog 60 #[.int .i64 n] w fun e w' => e = .returned (.bool (inB n 50 100)) ∧ w = w' := by
  go_enter Try.func60, Try.ntmps60
  go_wp2_with (go_at_call 59; refine (within_any _ _ _ _).mono ?_; rintro e w' ⟨rfl, rfl⟩)
  go_ret
  exact ⟨rfl, rfl⟩
theorem l13Packed_any (n : Int) (w : World) : Calls Try.prog 58 #[.int .i64 n] w fun e w' => e = .returned (.bool (inB n 50 100)) ∧ w = w' := by
  go_enter Try.func58, Try.ntmps58
  go_wp2_with (go_at_call 57; refine (l00In_any _ _ _ _).mono ?_; rintro e w' ⟨rfl, rfl⟩)
  go_ret
  exact ⟨rfl, rfl⟩
theorem isLength_any (n : Int) (w : World) : Calls Try.prog 63 #[.int .i64 n] w fun e w' => e = .returned (.bool (inB n 100 3000)) ∧ w = w' := by
  go_enter Try.func63, Try.ntmps63
  go_wp2_with (go_at_call 59; refine (within_any _ _ _ _).mono ?_; rintro e w' ⟨rfl, rfl⟩)
  go_ret
  exact ⟨rfl, rfl⟩
theorem l02Long_any (n : Int) (w : World) : Calls Try.prog 62 #[.int .i64 n] w fun e w' => e = .returned (.bool (inB n 100 3000)) ∧ w = w' := by
  go_enter Try.func62, Try.ntmps62
  go_wp2_with (go_at_call 57; refine (l00In_any _ _ _ _).mono ?_; rintro e w' ⟨rfl, rfl⟩)
  go_ret
  exact ⟨rfl, rfl⟩

/-- How many rounds make a height. -/
def coursN (t m h p : Int) : Int := ovr (1000 * h) (t * m * p)
def coursV (a t m h p : Int) : Int × Int := if okCourse a t m then (if inB h 0 2000 && inB p 50 100 then (if 60 < coursN t m h p then (0, 5) else (coursN t m h p, 0)) else (0, 2)) else (0, 1)

theorem prod_bd {t m p : Int} (it : 1 ≤ t ∧ t ≤ 300) (im : 1 ≤ m ∧ m ≤ 6) (ip : 50 ≤ p ∧ p ≤ 100) : (0 ≤ t * m ∧ t * m ≤ 1800) ∧ 1 ≤ t * m * p ∧ t * m * p ≤ 180000 := by
  have b1 := mulb (x := t) (y := m) (A := 300) (B := 6) (by omega) (by omega) (by omega) (by omega)
  have b3 : 1 ≤ t * m := by have := Int.mul_pos (show 0 < t by omega) (show 0 < m by omega); omega
  have b2 := mulb (x := t * m) (y := p) (A := 1800) (B := 100) (by omega) (by omega) (by omega) (by omega)
  have b4 : 1 ≤ t * m * p := by have := Int.mul_pos (show 0 < t * m by omega) (show 0 < p by omega); omega
  omega

theorem implCoursesFor_any (a t m h p : Int) (w : World) : Calls Try.prog 18 #[.agg #[.int .i64 a, .int .i64 t, .int .i64 m], .int .i64 h, .int .i64 p] w fun e w' =>
    e = .returned (.tuple #[.int .i64 (coursV a t m h p).1, .int .i64 (coursV a t m h p).2]) ∧ Below w.heap.size w w' := by
  cases g : okCourse a t m
  · have hv : coursV a t m h p = (0, 1) := by simp [coursV, g]
    rw [hv]
    clear hv
    go_enter Try.func18, Try.ntmps18
    go_wp2_with (go_at_call 54; refine (isCourse_any _ _ _ _).mono ?_; rintro e w1 ⟨rfl, hb1⟩)
    go_ret2
    exact ⟨rfl, ((Below.refl _ _).alloc (Nat.le_refl _) _).trans (hb1.mono (by simp))⟩
  cases g2 : inB h 0 2000
  · have hv : coursV a t m h p = (0, 2) := by simp [coursV, g, g2]
    rw [hv]
    clear hv
    go_enter Try.func18, Try.ntmps18
    go_wp2_with (first | (go_at_call 54; refine (isCourse_any _ _ _ _).mono ?_; rintro e w1 ⟨rfl, hb1⟩) | (go_at_call 59; refine (within_any _ _ _ _).mono ?_; rintro e w' ⟨rfl, rfl⟩) | (go_at_call 60; refine (isPacked_any _ _).mono ?_; rintro e w' ⟨rfl, rfl⟩))
    go_ret2
    exact ⟨rfl, ((Below.refl _ _).alloc (Nat.le_refl _) _).trans (hb1.mono (by simp))⟩
  cases g3 : inB p 50 100
  · have hv : coursV a t m h p = (0, 2) := by simp [coursV, g, g2, g3]
    rw [hv]
    clear hv
    go_enter Try.func18, Try.ntmps18
    go_wp2_with (first | (go_at_call 54; refine (isCourse_any _ _ _ _).mono ?_; rintro e w1 ⟨rfl, hb1⟩) | (go_at_call 59; refine (within_any _ _ _ _).mono ?_; rintro e w' ⟨rfl, rfl⟩) | (go_at_call 60; refine (isPacked_any _ _).mono ?_; rintro e w' ⟨rfl, rfl⟩))
    go_ret2
    exact ⟨rfl, ((Below.refl _ _).alloc (Nat.le_refl _) _).trans (hb1.mono (by simp))⟩
  have i1 := (okCourse_iff _ _ _).1 g
  have i2 := (inB_iff _ _ _).1 g2
  have i3 := (inB_iff _ _ _).1 g3
  obtain ⟨ia, it, im⟩ := i1
  obtain ⟨⟨b1, b2⟩, b3, b4⟩ := prod_bd it im i3
  have b5 := ovr_bd (a := 1000 * h) (b := t * m * p) (by omega) (by omega)
  have hv : coursV a t m h p = if 60 < coursN t m h p then (0, 5) else (coursN t m h p, 0) := by simp [coursV, g, g2, g3]
  by_cases g4 : 60 < coursN t m h p
  · rw [hv, if_pos g4]
    clear hv
    unfold coursN at g4
    go_enter Try.func18, Try.ntmps18
    go_wp2_with fail
    refine (isCourse_any _ _ _ _).mono ?_
    rintro e w1 ⟨rfl, hb1⟩
    obtain ⟨hc, hf⟩ := bcell hb1
    go_wp2_with (first | (go_at_call 59; refine (within_any _ _ _ _).mono ?_; rintro e w' ⟨rfl, rfl⟩) | (go_at_call 60; refine (isPacked_any _ _).mono ?_; rintro e w' ⟨rfl, rfl⟩) | (go_at_call 61; refine (over_any _ _ _ (by omega) (by omega) (by omega)).mono ?_; rintro e w' ⟨rfl, rfl⟩))
    go_ret2
    exact ⟨rfl, ((Below.refl _ _).alloc (Nat.le_refl _) _).trans (hb1.mono (by simp))⟩
  · rw [hv, if_neg g4]
    clear hv
    unfold coursN at g4 ⊢
    go_enter Try.func18, Try.ntmps18
    go_wp2_with fail
    refine (isCourse_any _ _ _ _).mono ?_
    rintro e w1 ⟨rfl, hb1⟩
    obtain ⟨hc, hf⟩ := bcell hb1
    go_wp2_with (first | (go_at_call 59; refine (within_any _ _ _ _).mono ?_; rintro e w' ⟨rfl, rfl⟩) | (go_at_call 60; refine (isPacked_any _ _).mono ?_; rintro e w' ⟨rfl, rfl⟩) | (go_at_call 61; refine (over_any _ _ _ (by omega) (by omega) (by omega)).mono ?_; rintro e w' ⟨rfl, rfl⟩))
    go_ret2
    exact ⟨rfl, ((Below.refl _ _).alloc (Nat.le_refl _) _).trans (hb1.mono (by simp))⟩

theorem specCoursesFor_any (a t m h p : Int) (w : World) : Calls Try.prog 17 #[.agg #[.int .i64 a, .int .i64 t, .int .i64 m], .int .i64 h, .int .i64 p] w fun e w' =>
    e = .returned (.tuple #[.int .i64 (coursV a t m h p).1, .int .i64 (coursV a t m h p).2]) ∧ Below w.heap.size w w' := by
  cases g : okCourse a t m
  · have hv : coursV a t m h p = (0, 1) := by simp [coursV, g]
    rw [hv]
    clear hv
    go_enter Try.func17, Try.ntmps17
    go_wp2_with (go_at_call 50; refine (l13One_any a t m _ _ _ (by go_cell) (by go_cell) (by go_cell)).mono ?_; rintro e w' ⟨rfl, rfl⟩)
    go_ret2
    exact ⟨rfl, by go_grown⟩
  cases g2 : inB h 0 2000
  · have hv : coursV a t m h p = (0, 2) := by simp [coursV, g, g2]
    rw [hv]
    clear hv
    go_enter Try.func17, Try.ntmps17
    go_wp2_with (first | (go_at_call 50; refine (l13One_any a t m _ _ _ (by go_cell) (by go_cell) (by go_cell)).mono ?_; rintro e w' ⟨rfl, rfl⟩) | (go_at_call 57; refine (l00In_any _ _ _ _).mono ?_; rintro e w' ⟨rfl, rfl⟩) | (go_at_call 58; refine (l13Packed_any _ _).mono ?_; rintro e w' ⟨rfl, rfl⟩))
    go_ret2
    exact ⟨rfl, by go_grown⟩
  cases g3 : inB p 50 100
  · have hv : coursV a t m h p = (0, 2) := by simp [coursV, g, g2, g3]
    rw [hv]
    clear hv
    go_enter Try.func17, Try.ntmps17
    go_wp2_with (first | (go_at_call 50; refine (l13One_any a t m _ _ _ (by go_cell) (by go_cell) (by go_cell)).mono ?_; rintro e w' ⟨rfl, rfl⟩) | (go_at_call 57; refine (l00In_any _ _ _ _).mono ?_; rintro e w' ⟨rfl, rfl⟩) | (go_at_call 58; refine (l13Packed_any _ _).mono ?_; rintro e w' ⟨rfl, rfl⟩))
    go_ret2
    exact ⟨rfl, by go_grown⟩
  have i1 := (okCourse_iff _ _ _).1 g
  have i2 := (inB_iff _ _ _).1 g2
  have i3 := (inB_iff _ _ _).1 g3
  obtain ⟨ia, it, im⟩ := i1
  obtain ⟨⟨b1, b2⟩, b3, b4⟩ := prod_bd it im i3
  have b5 := ovr_bd (a := 1000 * h) (b := t * m * p) (by omega) (by omega)
  have hn : coursN t m h p = (1000 * h + t * m * p - 1) / (t * m * p) := by unfold coursN; rw [ovr_eq (by omega)]
  have hv : coursV a t m h p = if 60 < coursN t m h p then (0, 5) else (coursN t m h p, 0) := by simp [coursV, g, g2, g3]
  rw [ovr_eq (by omega)] at b5
  by_cases g4 : 60 < coursN t m h p
  · rw [hv, if_pos g4]
    rw [hn] at g4
    clear hv hn
    go_enter Try.func17, Try.ntmps17
    go_wp2_with (first | (go_at_call 50; refine (l13One_any a t m _ _ _ (by go_cell) (by go_cell) (by go_cell)).mono ?_; rintro e w' ⟨rfl, rfl⟩) | (go_at_call 57; refine (l00In_any _ _ _ _).mono ?_; rintro e w' ⟨rfl, rfl⟩) | (go_at_call 58; refine (l13Packed_any _ _).mono ?_; rintro e w' ⟨rfl, rfl⟩))
    go_ret2
    exact ⟨rfl, by go_grown⟩
  · rw [hv, if_neg g4]
    rw [hn] at g4 ⊢
    clear hv hn
    go_enter Try.func17, Try.ntmps17
    go_wp2_with (first | (go_at_call 50; refine (l13One_any a t m _ _ _ (by go_cell) (by go_cell) (by go_cell)).mono ?_; rintro e w' ⟨rfl, rfl⟩) | (go_at_call 57; refine (l00In_any _ _ _ _).mono ?_; rintro e w' ⟨rfl, rfl⟩) | (go_at_call 58; refine (l13Packed_any _ _).mono ?_; rintro e w' ⟨rfl, rfl⟩))
    go_ret2
    exact ⟨rfl, by go_grown⟩

theorem law_FnExactCoursesFor (a : Int) (_ : (Lit.int .i64 a).wf = true) (t : Int) (_ : (Lit.int .i64 t).wf = true) (m : Int) (_ : (Lit.int .i64 m).wf = true) (h : Int) (_ : (Lit.int .i64 h).wf = true) (p : Int) (_ : (Lit.int .i64 p).wf = true) (w : World) :
    Calls Try.prog 4 #[.agg #[.int .i64 a, .int .i64 t, .int .i64 m], .int .i64 h, .int .i64 p] w fun e w' => e = .returned (.bool true) ∧ Below w.heap.size w w' := by
  go_enter Try.func4, Try.ntmps4
  go_wp2_with fail
  refine (toCourse_any _ _ _ _).mono ?_
  rintro e w1 ⟨rfl, hb1⟩
  go_wp2_with fail
  refine (specCoursesFor_any _ _ _ _ _ _).mono ?_
  rintro e w2 ⟨rfl, hb2⟩
  have hb := hb1.trans (hb2.mono hb1.size)
  obtain ⟨hc, hf⟩ := bcell hb
  go_wp2_with fail
  refine (toCourse_any _ _ _ _).mono ?_
  rintro e w3 ⟨rfl, hb3⟩
  go_wp2_with fail
  refine (implCoursesFor_any _ _ _ _ _ _).mono ?_
  rintro e w4 ⟨rfl, hb4⟩
  go_wp2
  go_ret
  refine ⟨rfl, ?_⟩
  have hb5 := (hb.trans (hb3.mono hb.size)).trans (hb4.mono (hb.trans (hb3.mono hb.size)).size)
  exact ((Below.refl _ _).alloc (Nat.le_refl _) _).trans (hb5.mono (by simp))
end Go.Proofs.Ytelbedmfnmjehaa
