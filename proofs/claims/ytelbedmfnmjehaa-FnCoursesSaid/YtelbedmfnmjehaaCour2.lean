/- Contracts about single rounds: LengthOfCourse. -/
import Derived.Test.YtelbedmfnmjehaaCour
namespace Go.Proofs.Ytelbedmfnmjehaa
open Go.RowKit
set_option linter.unusedVariables false
set_option linter.unusedSimpArgs false

def lenCV (a t m s : Int) : Int × Int × Int := if okCourse a t m then (if inB s 3 60 then (m * a, m * mostL a t s, 0) else (0, 0, 2)) else (0, 0, 1)

theorem implLengthOfCourse_any (a t m s : Int) (w : World) : Calls Try.prog 16 #[.agg #[.int .i64 a, .int .i64 t, .int .i64 m], .int .i64 s] w fun e w' =>
    e = .returned (.tuple #[.int .i64 (lenCV a t m s).1, .int .i64 (lenCV a t m s).2.1, .int .i64 (lenCV a t m s).2.2]) ∧ Below w.heap.size w w' := by
  cases h : okCourse a t m
  · have hv : lenCV a t m s = (0, 0, 1) := by simp [lenCV, h]
    rw [hv]
    clear hv
    go_enter Try.func16, Try.ntmps16
    go_wp2_with fail
    refine (isCourse_any _ _ _ _).mono ?_
    rintro e w1 ⟨rfl, hb1⟩
    go_wp2
    go_ret3
    exact ⟨rfl, ((Below.refl _ _).alloc (Nat.le_refl _) _).trans (hb1.mono (by simp))⟩
  cases h2 : inB s 3 60
  · have hv : lenCV a t m s = (0, 0, 2) := by simp [lenCV, h, h2]
    rw [hv]
    clear hv
    go_enter Try.func16, Try.ntmps16
    go_wp2_with fail
    refine (isCourse_any _ _ _ _).mono ?_
    rintro e w1 ⟨rfl, hb1⟩
    go_wp2_with (go_at_call 55; refine (areStakes_any _ _).mono ?_; rintro e w' ⟨rfl, rfl⟩)
    go_ret3
    exact ⟨rfl, ((Below.refl _ _).alloc (Nat.le_refl _) _).trans (hb1.mono (by simp))⟩
  · have i1 := (okCourse_iff _ _ _).1 h
    have i2 := (inB_iff _ _ _).1 h2
    have hv : lenCV a t m s = (m * a, m * mostL a t s, 0) := by simp [lenCV, h, h2]
    rw [hv]
    clear hv
    obtain ⟨ia, it, im⟩ := i1
    obtain ⟨g1, g2, g3, g4⟩ := mostL_bd ia it i2
    have b1 := mulb (x := m) (y := a) (A := 6) (B := 5000) (by omega) (by omega) (by omega) (by omega)
    have b2 := mulb (x := m) (y := mostL a t s) (A := 6) (B := 41000) (by omega) (by omega) (by omega) (by omega)
    go_enter Try.func16, Try.ntmps16
    go_wp2_with fail
    refine (isCourse_any _ _ _ _).mono ?_
    rintro e w1 ⟨rfl, hb1⟩
    obtain ⟨hc, hf⟩ := bcell hb1
    have hc0 : w1.cell? ⟨w.heap.size, 0, none⟩ = some (.int .i64 a) := by rw [hc _ _ (by simp)]; go_cell
    have hc1 : w1.cell? ⟨w.heap.size, 1, none⟩ = some (.int .i64 t) := by rw [hc _ _ (by simp)]; go_cell
    have hc2 : w1.cell? ⟨w.heap.size, 2, none⟩ = some (.int .i64 m) := by rw [hc _ _ (by simp)]; go_cell
    have hb0 : Below w.heap.size w w1 := ((Below.refl _ _).alloc (Nat.le_refl _) _).trans (hb1.mono (by simp))
    clear hc hf hb1
    go_wp2_with (go_at_call 55; refine (areStakes_any _ _).mono ?_; rintro e w' ⟨rfl, rfl⟩)
    have wr1 : IntKind.i64.wrap (m * a) = m * a := IntWalk.i64_in _ (by omega)
    have wr2 : IntKind.i64.wrap (m * mostL a t s) = m * mostL a t s := IntWalk.i64_in _ (by omega)
    go_region_held3 (fun w' => w'.cell? ⟨w.heap.size, 0, none⟩ = some (.int .i64 a) ∧ w'.cell? ⟨w.heap.size, 1, none⟩ = some (.int .i64 t) ∧ w'.cell? ⟨w.heap.size, 2, none⟩ = some (.int .i64 m) ∧ Below w.heap.size w w')
      (((try go_split_ands); (try dsimp only); (repeat' apply And.intro)) <;> first | exact keepd (by assumption) | exact Below.drew (by assumption) | exact keepc hb2 (by assumption) | exact belowT hb2 (by assumption))
      ((go_at_call 56; refine (mostLength_any a t m s _ ia it i2).mono ?_; rintro e w' ⟨rfl, hb2⟩))
    go_wp2
    go_ret3
    exact ⟨rfl, by go_split_ands; assumption⟩

theorem specLengthOfCourse_any (a t m s : Int) (w : World) : Calls Try.prog 14 #[.agg #[.int .i64 a, .int .i64 t, .int .i64 m], .int .i64 s] w fun e w' =>
    e = .returned (.tuple #[.int .i64 (lenCV a t m s).1, .int .i64 (lenCV a t m s).2.1, .int .i64 (lenCV a t m s).2.2]) ∧ Below w.heap.size w w' := by
  cases h : okCourse a t m
  · have hv : lenCV a t m s = (0, 0, 1) := by simp [lenCV, h]
    rw [hv]
    clear hv
    go_enter Try.func14, Try.ntmps14
    go_wp2_with (go_at_call 50; refine (l13One_any a t m _ _ _ (by go_cell) (by go_cell) (by go_cell)).mono ?_; rintro e w' ⟨rfl, rfl⟩)
    go_ret3
    exact ⟨rfl, by go_grown⟩
  cases h2 : inB s 3 60
  · have hv : lenCV a t m s = (0, 0, 2) := by simp [lenCV, h, h2]
    rw [hv]
    clear hv
    go_enter Try.func14, Try.ntmps14
    go_wp2_with (first | (go_at_call 50; refine (l13One_any a t m _ _ _ (by go_cell) (by go_cell) (by go_cell)).mono ?_; rintro e w' ⟨rfl, rfl⟩) | (go_at_call 51; refine (l13Stakes_any _ _).mono ?_; rintro e w' ⟨rfl, rfl⟩))
    go_ret3
    exact ⟨rfl, by go_grown⟩
  · have i1 := (okCourse_iff _ _ _).1 h
    have i2 := (inB_iff _ _ _).1 h2
    have hv : lenCV a t m s = (m * a, m * mostL a t s, 0) := by simp [lenCV, h, h2]
    rw [hv]
    clear hv
    obtain ⟨ia, it, im⟩ := i1
    go_enter Try.func14, Try.ntmps14
    go_wp2_with (first | (go_at_call 50; refine (l13One_any a t m _ _ _ (by go_cell) (by go_cell) (by go_cell)).mono ?_; rintro e w' ⟨rfl, rfl⟩) | (go_at_call 51; refine (l13Stakes_any _ _).mono ?_; rintro e w' ⟨rfl, rfl⟩) | (go_at_call 52; refine (l13Low_any a t m _ _ _ (by go_cell) (by go_cell) (by go_cell) ia im).mono ?_; rintro e w' ⟨rfl, n1, rfl⟩) | (go_at_call 53; refine (l13High_any a t m s _ _ _ (by go_cell) (by go_cell) (by go_cell) ia it im i2).mono ?_; rintro e w' ⟨rfl, n2, rfl⟩))
    go_ret3
    exact ⟨rfl, by first | exact below_drewN (below_drewN (by go_grown) _) _ | exact below_drewN (by go_grown) _⟩

theorem law_FnExactLengthOfCourse (a : Int) (_ : (Lit.int .i64 a).wf = true) (t : Int) (_ : (Lit.int .i64 t).wf = true) (m : Int) (_ : (Lit.int .i64 m).wf = true) (s : Int) (_ : (Lit.int .i64 s).wf = true) (w : World) :
    Calls Try.prog 3 #[.agg #[.int .i64 a, .int .i64 t, .int .i64 m], .int .i64 s] w fun e w' => e = .returned (.bool true) ∧ Below w.heap.size w w' := by
  go_enter Try.func3, Try.ntmps3
  go_wp2_with fail
  refine (toCourse_any _ _ _ _).mono ?_
  rintro e w1 ⟨rfl, hb1⟩
  go_wp2_with fail
  refine (specLengthOfCourse_any _ _ _ _ _).mono ?_
  rintro e w2 ⟨rfl, hb2⟩
  have hb := hb1.trans (hb2.mono hb1.size)
  obtain ⟨hc, hf⟩ := bcell hb
  go_wp2_with fail
  refine (toCourse_any _ _ _ _).mono ?_
  rintro e w3 ⟨rfl, hb3⟩
  go_wp2_with fail
  refine (implLengthOfCourse_any _ _ _ _ _).mono ?_
  rintro e w4 ⟨rfl, hb4⟩
  go_wp2
  go_ret
  refine ⟨rfl, ?_⟩
  have hb5 := (hb.trans (hb3.mono hb.size)).trans (hb4.mono (hb.trans (hb3.mono hb.size)).size)
  exact ((Below.refl _ _).alloc (Nat.le_refl _) _).trans (hb5.mono (by simp))
end Go.Proofs.Ytelbedmfnmjehaa
