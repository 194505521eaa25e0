/- Contracts about single rounds: RodsFor. -/
import Derived.Test.YtelbedmfnmjehaaCour3
namespace Go.Proofs.Ytelbedmfnmjehaa
open Go.RowKit
set_option linter.unusedVariables false
set_option linter.unusedSimpArgs false

def rodsV (a t m s r o : Int) : Int × Int := if okCourse a t m then (if inB s 3 60 && (inB r 100 3000 && inB o 0 3000) then (if r ≤ o then (0, 6) else (m * ovr (mostL a t s) (r - o), 0)) else (0, 2)) else (0, 1)

theorem implRodsFor_any (a t m s r o : Int) (w : World) : Calls Try.prog 20 #[.agg #[.int .i64 a, .int .i64 t, .int .i64 m], .int .i64 s, .int .i64 r, .int .i64 o] w fun e w' =>
    e = .returned (.tuple #[.int .i64 (rodsV a t m s r o).1, .int .i64 (rodsV a t m s r o).2]) ∧ Below w.heap.size w w' := by
  cases g : okCourse a t m
  · have hv : rodsV a t m s r o = (0, 1) := by simp [rodsV, g]
    rw [hv]
    clear hv
    go_enter Try.func20, Try.ntmps20
    go_wp2_with (first | (go_at_call 54; refine (isCourse_any _ _ _ _).mono ?_; rintro e w1 ⟨rfl, hb1⟩) | (go_at_call 55; refine (areStakes_any _ _).mono ?_; rintro e w' ⟨rfl, rfl⟩) | (go_at_call 63; refine (isLength_any _ _).mono ?_; rintro e w' ⟨rfl, rfl⟩) | (go_at_call 59; refine (within_any _ _ _ _).mono ?_; rintro e w' ⟨rfl, rfl⟩))
    go_ret2
    exact ⟨rfl, ((Below.refl _ _).alloc (Nat.le_refl _) _).trans (hb1.mono (by simp))⟩
  cases g2 : inB s 3 60
  · have hv : rodsV a t m s r o = (0, 2) := by simp [rodsV, g, g2]
    rw [hv]
    clear hv
    go_enter Try.func20, Try.ntmps20
    go_wp2_with (first | (go_at_call 54; refine (isCourse_any _ _ _ _).mono ?_; rintro e w1 ⟨rfl, hb1⟩) | (go_at_call 55; refine (areStakes_any _ _).mono ?_; rintro e w' ⟨rfl, rfl⟩) | (go_at_call 63; refine (isLength_any _ _).mono ?_; rintro e w' ⟨rfl, rfl⟩) | (go_at_call 59; refine (within_any _ _ _ _).mono ?_; rintro e w' ⟨rfl, rfl⟩))
    go_ret2
    exact ⟨rfl, ((Below.refl _ _).alloc (Nat.le_refl _) _).trans (hb1.mono (by simp))⟩
  cases g3 : inB r 100 3000
  · have hv : rodsV a t m s r o = (0, 2) := by simp [rodsV, g, g2, g3]
    rw [hv]
    clear hv
    go_enter Try.func20, Try.ntmps20
    go_wp2_with (first | (go_at_call 54; refine (isCourse_any _ _ _ _).mono ?_; rintro e w1 ⟨rfl, hb1⟩) | (go_at_call 55; refine (areStakes_any _ _).mono ?_; rintro e w' ⟨rfl, rfl⟩) | (go_at_call 63; refine (isLength_any _ _).mono ?_; rintro e w' ⟨rfl, rfl⟩) | (go_at_call 59; refine (within_any _ _ _ _).mono ?_; rintro e w' ⟨rfl, rfl⟩))
    go_ret2
    exact ⟨rfl, ((Below.refl _ _).alloc (Nat.le_refl _) _).trans (hb1.mono (by simp))⟩
  cases g4 : inB o 0 3000
  · have hv : rodsV a t m s r o = (0, 2) := by simp [rodsV, g, g2, g3, g4]
    rw [hv]
    clear hv
    go_enter Try.func20, Try.ntmps20
    go_wp2_with (first | (go_at_call 54; refine (isCourse_any _ _ _ _).mono ?_; rintro e w1 ⟨rfl, hb1⟩) | (go_at_call 55; refine (areStakes_any _ _).mono ?_; rintro e w' ⟨rfl, rfl⟩) | (go_at_call 63; refine (isLength_any _ _).mono ?_; rintro e w' ⟨rfl, rfl⟩) | (go_at_call 59; refine (within_any _ _ _ _).mono ?_; rintro e w' ⟨rfl, rfl⟩))
    go_ret2
    exact ⟨rfl, ((Below.refl _ _).alloc (Nat.le_refl _) _).trans (hb1.mono (by simp))⟩
  by_cases g5 : r ≤ o
  · have hv : rodsV a t m s r o = (0, 6) := by simp [rodsV, g, g2, g3, g4, g5]
    rw [hv]
    clear hv
    go_enter Try.func20, Try.ntmps20
    go_wp2_with (first | (go_at_call 54; refine (isCourse_any _ _ _ _).mono ?_; rintro e w1 ⟨rfl, hb1⟩) | (go_at_call 55; refine (areStakes_any _ _).mono ?_; rintro e w' ⟨rfl, rfl⟩) | (go_at_call 63; refine (isLength_any _ _).mono ?_; rintro e w' ⟨rfl, rfl⟩) | (go_at_call 59; refine (within_any _ _ _ _).mono ?_; rintro e w' ⟨rfl, rfl⟩))
    go_ret2
    exact ⟨rfl, ((Below.refl _ _).alloc (Nat.le_refl _) _).trans (hb1.mono (by simp))⟩
  have hv : rodsV a t m s r o = (m * ovr (mostL a t s) (r - o), 0) := by simp [rodsV, g, g2, g3, g4, g5]
  rw [hv]
  clear hv
  obtain ⟨ia, it, im⟩ := (okCourse_iff _ _ _).1 g
  have i2 := (inB_iff _ _ _).1 g2
  have i3 := (inB_iff _ _ _).1 g3
  have i4 := (inB_iff _ _ _).1 g4
  obtain ⟨q1, q2, q3, q4⟩ := mostL_bd ia it i2
  have q5 := ovr_bd (a := mostL a t s) (b := r - o) (by omega) (by omega)
  have b2 := mulb (x := m) (y := ovr (mostL a t s) (r - o)) (A := 6) (B := 41000) (by omega) (by omega) (by omega) (by omega)
  go_enter Try.func20, Try.ntmps20
  go_wp2_with fail
  refine (isCourse_any _ _ _ _).mono ?_
  rintro e w1 ⟨rfl, hb1⟩
  obtain ⟨hc, hf⟩ := bcell hb1
  have hc0 : w1.cell? ⟨w.heap.size, 0, none⟩ = some (.int .i64 a) := by rw [hc _ _ (by simp)]; go_cell
  have hc1 : w1.cell? ⟨w.heap.size, 1, none⟩ = some (.int .i64 t) := by rw [hc _ _ (by simp)]; go_cell
  have hc2 : w1.cell? ⟨w.heap.size, 2, none⟩ = some (.int .i64 m) := by rw [hc _ _ (by simp)]; go_cell
  have hb0 : Below w.heap.size w w1 := ((Below.refl _ _).alloc (Nat.le_refl _) _).trans (hb1.mono (by simp))
  clear hc hf hb1
  go_wp2_with (first | (go_at_call 55; refine (areStakes_any _ _).mono ?_; rintro e w' ⟨rfl, rfl⟩) | (go_at_call 63; refine (isLength_any _ _).mono ?_; rintro e w' ⟨rfl, rfl⟩) | (go_at_call 59; refine (within_any _ _ _ _).mono ?_; rintro e w' ⟨rfl, rfl⟩))
  have wr1 : IntKind.i64.wrap (r - o) = r - o := IntWalk.i64_in _ (by omega)
  have wr2 : IntKind.i64.wrap (m * ovr (mostL a t s) (r - o)) = m * ovr (mostL a t s) (r - o) := IntWalk.i64_in _ (by omega)
  go_region_held3 (fun w' => w'.cell? ⟨w.heap.size, 0, none⟩ = some (.int .i64 a) ∧ w'.cell? ⟨w.heap.size, 1, none⟩ = some (.int .i64 t) ∧ w'.cell? ⟨w.heap.size, 2, none⟩ = some (.int .i64 m) ∧ Below w.heap.size w w')
    (((try go_split_ands); (try dsimp only); (repeat' apply And.intro)) <;> first | assumption | exact keepd (by assumption) | exact Below.drew (by assumption) | exact keepc hb2 (by assumption) | exact belowT hb2 (by assumption))
    ((first | (go_at_call 56; refine (mostLength_any a t m s _ ia it i2).mono ?_; rintro e w' ⟨rfl, hb2⟩) | (go_at_call 61; refine (over_any (mostL a t s) (r - o) _ (by omega) (by omega) (by omega)).mono ?_; rintro e w' ⟨rfl, rfl⟩)))
  go_wp2
  go_ret2
  exact ⟨rfl, by go_split_ands; assumption⟩

theorem specRodsFor_any (a t m s r o : Int) (w : World) : Calls Try.prog 19 #[.agg #[.int .i64 a, .int .i64 t, .int .i64 m], .int .i64 s, .int .i64 r, .int .i64 o] w fun e w' =>
    e = .returned (.tuple #[.int .i64 (rodsV a t m s r o).1, .int .i64 (rodsV a t m s r o).2]) ∧ Below w.heap.size w w' := by
  cases g : okCourse a t m
  · have hv : rodsV a t m s r o = (0, 1) := by simp [rodsV, g]
    rw [hv]
    clear hv
    go_enter Try.func19, Try.ntmps19
    go_wp2_with (first | (go_at_call 50; refine (l13One_any a t m _ _ _ (by go_cell) (by go_cell) (by go_cell)).mono ?_; rintro e w' ⟨rfl, rfl⟩) | (go_at_call 51; refine (l13Stakes_any _ _).mono ?_; rintro e w' ⟨rfl, rfl⟩) | (go_at_call 62; refine (l02Long_any _ _).mono ?_; rintro e w' ⟨rfl, rfl⟩) | (go_at_call 57; refine (l00In_any _ _ _ _).mono ?_; rintro e w' ⟨rfl, rfl⟩))
    go_ret2
    exact ⟨rfl, by go_grown⟩
  cases g2 : inB s 3 60
  · have hv : rodsV a t m s r o = (0, 2) := by simp [rodsV, g, g2]
    rw [hv]
    clear hv
    go_enter Try.func19, Try.ntmps19
    go_wp2_with (first | (go_at_call 50; refine (l13One_any a t m _ _ _ (by go_cell) (by go_cell) (by go_cell)).mono ?_; rintro e w' ⟨rfl, rfl⟩) | (go_at_call 51; refine (l13Stakes_any _ _).mono ?_; rintro e w' ⟨rfl, rfl⟩) | (go_at_call 62; refine (l02Long_any _ _).mono ?_; rintro e w' ⟨rfl, rfl⟩) | (go_at_call 57; refine (l00In_any _ _ _ _).mono ?_; rintro e w' ⟨rfl, rfl⟩))
    go_ret2
    exact ⟨rfl, by go_grown⟩
  cases g3 : inB r 100 3000
  · have hv : rodsV a t m s r o = (0, 2) := by simp [rodsV, g, g2, g3]
    rw [hv]
    clear hv
    go_enter Try.func19, Try.ntmps19
    go_wp2_with (first | (go_at_call 50; refine (l13One_any a t m _ _ _ (by go_cell) (by go_cell) (by go_cell)).mono ?_; rintro e w' ⟨rfl, rfl⟩) | (go_at_call 51; refine (l13Stakes_any _ _).mono ?_; rintro e w' ⟨rfl, rfl⟩) | (go_at_call 62; refine (l02Long_any _ _).mono ?_; rintro e w' ⟨rfl, rfl⟩) | (go_at_call 57; refine (l00In_any _ _ _ _).mono ?_; rintro e w' ⟨rfl, rfl⟩))
    go_ret2
    exact ⟨rfl, by go_grown⟩
  cases g4 : inB o 0 3000
  · have hv : rodsV a t m s r o = (0, 2) := by simp [rodsV, g, g2, g3, g4]
    rw [hv]
    clear hv
    go_enter Try.func19, Try.ntmps19
    go_wp2_with (first | (go_at_call 50; refine (l13One_any a t m _ _ _ (by go_cell) (by go_cell) (by go_cell)).mono ?_; rintro e w' ⟨rfl, rfl⟩) | (go_at_call 51; refine (l13Stakes_any _ _).mono ?_; rintro e w' ⟨rfl, rfl⟩) | (go_at_call 62; refine (l02Long_any _ _).mono ?_; rintro e w' ⟨rfl, rfl⟩) | (go_at_call 57; refine (l00In_any _ _ _ _).mono ?_; rintro e w' ⟨rfl, rfl⟩))
    go_ret2
    exact ⟨rfl, by go_grown⟩
  by_cases g5 : r ≤ o
  · have hv : rodsV a t m s r o = (0, 6) := by simp [rodsV, g, g2, g3, g4, g5]
    rw [hv]
    clear hv
    go_enter Try.func19, Try.ntmps19
    go_wp2_with (first | (go_at_call 50; refine (l13One_any a t m _ _ _ (by go_cell) (by go_cell) (by go_cell)).mono ?_; rintro e w' ⟨rfl, rfl⟩) | (go_at_call 51; refine (l13Stakes_any _ _).mono ?_; rintro e w' ⟨rfl, rfl⟩) | (go_at_call 62; refine (l02Long_any _ _).mono ?_; rintro e w' ⟨rfl, rfl⟩) | (go_at_call 57; refine (l00In_any _ _ _ _).mono ?_; rintro e w' ⟨rfl, rfl⟩))
    go_ret2
    exact ⟨rfl, by go_grown⟩
  obtain ⟨ia, it, im⟩ := (okCourse_iff _ _ _).1 g
  have i2 := (inB_iff _ _ _).1 g2
  have i3 := (inB_iff _ _ _).1 g3
  have i4 := (inB_iff _ _ _).1 g4
  obtain ⟨q1, q2, q3, q4⟩ := mostL_bd ia it i2
  have q5 := ovr_bd (a := mostL a t s) (b := r - o) (by omega) (by omega)
  have q6 : (mostL a t s + (r - o) - 1) / (r - o) = (mostL a t s + r - o - 1) / (r - o) := by congr 1; omega
  have hv : rodsV a t m s r o = (m * ((mostL a t s + r - o - 1) / (r - o)), 0) := by rw [← q6, ← ovr_eq (by omega)]; simp [rodsV, g, g2, g3, g4, g5]
  rw [hv]
  clear hv
  rw [ovr_eq (by omega), q6] at q5
  have b2 := mulb (x := m) (y := (mostL a t s + r - o - 1) / (r - o)) (A := 6) (B := 41000) (by omega) (by omega) (by omega) (by omega)
  have b3 := mulb (x := m) (y := mostL a t s) (A := 6) (B := 41000) (by omega) (by omega) (by omega) (by omega)
  have hd : m * mostL a t s / m = mostL a t s := Int.mul_ediv_cancel_left _ (by omega)
  clear q6
  go_enter Try.func19, Try.ntmps19
  go_wp2_with (first | (go_at_call 50; refine (l13One_any a t m _ _ _ (by go_cell) (by go_cell) (by go_cell)).mono ?_; rintro e w' ⟨rfl, rfl⟩) | (go_at_call 51; refine (l13Stakes_any _ _).mono ?_; rintro e w' ⟨rfl, rfl⟩) | (go_at_call 62; refine (l02Long_any _ _).mono ?_; rintro e w' ⟨rfl, rfl⟩) | (go_at_call 57; refine (l00In_any _ _ _ _).mono ?_; rintro e w' ⟨rfl, rfl⟩))
  go_quiet ((go_at_call 53; refine Calls.quiet_of (l13High_any a t m s _ _ _ (by go_cell) (by go_cell) (by go_cell) ia it im i2)))
  go_wp2
  go_quiet (fail)
  go_wp2
  go_ret2
  exact ⟨rfl, by first | exact below_drewN (below_drewN (by go_grown) _) _ | exact below_drewN (by go_grown) _⟩

theorem law_FnExactRodsFor (a : Int) (_ : (Lit.int .i64 a).wf = true) (t : Int) (_ : (Lit.int .i64 t).wf = true) (m : Int) (_ : (Lit.int .i64 m).wf = true) (h : Int) (_ : (Lit.int .i64 h).wf = true) (p : Int) (_ : (Lit.int .i64 p).wf = true) (q : Int) (_ : (Lit.int .i64 q).wf = true) (w : World) :
    Calls Try.prog 5 #[.agg #[.int .i64 a, .int .i64 t, .int .i64 m], .int .i64 h, .int .i64 p, .int .i64 q] w fun e w' => e = .returned (.bool true) ∧ Below w.heap.size w w' := by
  go_enter Try.func5, Try.ntmps5
  go_wp2_with fail
  refine (toCourse_any _ _ _ _).mono ?_
  rintro e w1 ⟨rfl, hb1⟩
  go_wp2_with fail
  refine (specRodsFor_any _ _ _ _ _ _ _).mono ?_
  rintro e w2 ⟨rfl, hb2⟩
  have hb := hb1.trans (hb2.mono hb1.size)
  obtain ⟨hc, hf⟩ := bcell hb
  go_wp2_with fail
  refine (toCourse_any _ _ _ _).mono ?_
  rintro e w3 ⟨rfl, hb3⟩
  go_wp2_with fail
  refine (implRodsFor_any _ _ _ _ _ _ _).mono ?_
  rintro e w4 ⟨rfl, hb4⟩
  go_wp2
  go_ret
  refine ⟨rfl, ?_⟩
  have hb5 := (hb.trans (hb3.mono hb.size)).trans (hb4.mono (hb.trans (hb3.mono hb.size)).size)
  exact ((Below.refl _ _).alloc (Nat.le_refl _) _).trans (hb5.mono (by simp))
end Go.Proofs.Ytelbedmfnmjehaa
