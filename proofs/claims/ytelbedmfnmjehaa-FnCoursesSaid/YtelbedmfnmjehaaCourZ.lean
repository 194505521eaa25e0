/- HeightOfCourses: the law. -/
import Derived.Test.YtelbedmfnmjehaaCourY
namespace Go.Proofs.Ytelbedmfnmjehaa
open Go.RowKit
set_option linter.unusedVariables false
set_option linter.unusedSimpArgs false

theorem law_FnExactHeightOfCourses (w : World) (A : Option Addr) (n c : Nat) (cs : List R3) (h0 : IsRecs3 w A n cs) (p : Int) (_ : (Lit.int .i64 p).wf = true) : Calls Try.prog 10 #[.slice A n c, .int .i64 p] w fun e w' => e = .returned (.bool true) ∧ Below w.heap.size w w' := by
  have hm := h0.1
  unfold maxLen at hm
  have h := h0.2.1
  by_cases hbig : 1048576 < n
  · have h' : (1048576 : Int) < (n : Int) := by omega
    go_enter Try.func10, Try.ntmps10
    go_wp2_with (go_at_call 21; refine (szCourseS_big _ _ _ _ _ (by omega) (by omega) (by omega) (by omega)).mono ?_; rintro e w' ⟨rfl, rfl⟩)
    go_ret
    exact ⟨rfl, Below.refl _ _⟩
  have hn : n ≤ 1048576 := by omega
  have h' : ¬ (1048576 : Int) < (n : Int) := by omega
  have e1 : decide (cs = cs) = true := by simp
  go_enter Try.func10, Try.ntmps10
  go_wp2_with (go_at_call 21; refine (szCourseS_small _ _ _ _ _ (by omega) (by omega)).mono ?_; rintro e w' ⟨rfl, rfl⟩)
  refine (toCourseS_any _ _ _ _ _ h hn).mono ?_
  rintro e w1 ⟨rfl, ho1, hb1⟩
  go_wp2_with fail
  refine (specHeightOf_any _ _ _ _ _ _ ho1.recs hn).mono ?_
  rintro e w2 ⟨rfl, hb2⟩
  have hB2 := belowT hb2 hb1
  go_wp2_with fail
  have hB2' : Below w.heap.size w (w2.alloc (.cells #[.int .i64 (heightF cs p).1, .int .i64 (heightF cs p).2.1] 46)) := hB2.alloc hB2.size _
  refine (toCourseS_any _ _ _ _ _ (h.keep hB2') hn).mono ?_
  rintro e w3 ⟨rfl, ho3, hb3⟩
  have hB3 := belowT hb3 hB2'
  have hr3 : Recs w3 (some ⟨w2.heap.size + 1, 0, none⟩) n cs := by have := ho3.recs; rw [World.size_alloc] at this; exact this
  go_wp2_with fail
  refine (implHeightOf_any _ _ _ _ _ _ hr3 hn).mono ?_
  rintro e w5 ⟨rfl, hb5⟩
  have hB5 := belowT hb5 hB3
  have hb35 := belowT hb5 hb3
  obtain ⟨hc, hf⟩ := bcell hb35
  have hq0 : w5.cell? ⟨w2.heap.size, 0, none⟩ = some (.int .i64 (heightF cs p).1) := by rw [hc _ _ (by simp)]; go_cell
  have hq1 : w5.cell? ⟨w2.heap.size, 1, none⟩ = some (.int .i64 (heightF cs p).2.1) := by rw [hc _ _ (by simp)]; go_cell
  have hlt := World.block_lt_of_cell? _ _ hq0
  clear hc hf
  go_wp2_with fail
  refine (eqFraction_any _ _ _).mono ?_
  rintro e w6 ⟨rfl, hb6⟩
  have hB5' : Below w.heap.size w (w5.alloc (.cells #[.int .i64 (heightF cs p).1, .int .i64 (heightF cs p).2.1] 46)) := hB5.alloc hB5.size _
  have hB6 := belowT hb6 hB5'
  go_wp2_with fail
  refine (toCourseS_any _ _ _ _ _ (h.keep hB6) hn).mono ?_
  rintro e w7 ⟨rfl, ho7, hb7⟩
  have hB7 := belowT hb7 hB6
  go_wp2_with fail
  refine (eqCourseS_any _ _ _ _ _ _ _ _ _ ((((hr3.keep hb5).alloc _).keep hb6).keep hb7) ho7.recs hn hn).mono ?_
  rintro e w' ⟨rfl, hb9⟩
  go_wp2
  go_ret
  exact ⟨rfl, belowT hb9 hB7⟩
end Go.Proofs.Ytelbedmfnmjehaa
