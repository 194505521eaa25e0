/- ReportText: the law. -/
import Derived.Test.YtopefgahppfkcaaDoorRepT
namespace Go.Proofs.YtopefgahppfkcaaDoor
open Go.RowKit
set_option linter.unusedVariables false
set_option linter.unusedSimpArgs false

theorem tab_of_laid {w : World} (h : laidMetH Tryd.prog Rows.fnExactReportTextRow.laid w) : Tab w := by
  rw [MakeChecks.laidMetH_plain _ _ _ (by kernel_rfl)] at h
  have h3 := laidMet.tail (laidMet.tail h)
  intro nm e
  have e2 := Option.some.inj e
  subst e2
  exact Lib.tabIs_of_head (g := 0) (t := 89) (e := 75) (n := 20) (by kernel_rfl) (by kernel_rfl) Tryd.underlying89 Tryd.underlying75 (by kernel_rfl) (by kernel_rfl) h3
theorem law_FnExactReportText (r : Int) (_ : (Lit.int .i64 r).wf = true) (k : Int) (_ : (Lit.int .i64 k).wf = true) (w : World) (hL : laidMetH Tryd.prog Rows.fnExactReportTextRow.laid w) : Calls Tryd.prog 3 #[.agg #[.int .i64 r, .int .i64 k]] w fun e w' => e = .returned (.bool true) ∧ Below w.heap.size w w' := by
  have HT := BoxD.mk (tab_of_laid hL)
  clear hL
  obtain ⟨t, ht⟩ : ∃ t, repT r k = t := ⟨_, rfl⟩
  have htt : (t.toList == t.toList) = true := by simp
  go_enter Tryd.func3, Tryd.ntmps3
  go_wp2_with fail
  refine (toReport_any _ _ _).mono ?_
  rintro e w1 ⟨rfl, hb1⟩
  have hB1 : Below w.heap.size w w1 := Below.trans (by go_grown) (hb1.mono (by simp))
  go_wp2_with fail
  refine (specReportText_any _ _ _ (HT.out.keep hB1)).mono ?_
  rw [ht]
  rintro e w2 ⟨rfl, hb2⟩
  have hb := hb1.trans (hb2.mono hb1.size)
  have hB : Below w.heap.size w w2 := Below.trans (by go_grown) (hb.mono (by simp))
  have c0 : w2.cell? ⟨w.heap.size, 0, none⟩ = some (.int .i64 r) := keepc hb (by go_cell)
  have c1 : w2.cell? ⟨w.heap.size, 1, none⟩ = some (.int .i64 k) := keepc hb (by go_cell)
  clear hb hb1 hb2 hB1
  go_wp2_with fail
  refine (toReport_any _ _ _).mono ?_
  rintro e w3 ⟨rfl, hb3⟩
  have hB3 := belowT hb3 hB
  go_wp2_with fail
  refine (implReportText_any _ _ _ (HT.out.keep hB3)).mono ?_
  rw [ht]
  rintro e w4 ⟨rfl, hb4⟩
  go_wp2_with fail
  go_ret
  exact ⟨rfl, belowT hb4 hB3⟩
end Go.Proofs.YtopefgahppfkcaaDoor
