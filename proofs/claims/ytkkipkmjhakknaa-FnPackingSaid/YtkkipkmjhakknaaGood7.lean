/- SharesOf: the law. -/
import Derived.Test.YtkkipkmjhakknaaGood6
namespace Go.Proofs.Ytkkipkmjhakknaa
open Go.RowKit
set_option linter.unusedVariables false
set_option linter.unusedSimpArgs false

theorem law_FnExactSharesOf (w : World) (A : Option Addr) (n c : Nat) (cs : List R2) (h0 : IsRecs2 w A n cs) (l : Int) (_ : (Lit.int .i64 l).wf = true) (r : Int) (_ : (Lit.int .i64 r).wf = true) : Calls Try.prog 12 #[.slice A n c, .int .i64 l, .int .i64 r] w fun e w' => e = .returned (.bool true) ∧ Below w.heap.size w w' := by
  have hm := h0.1
  unfold maxLen at hm
  have h := h0.2.1
  by_cases hbig : 1048576 < n
  · have h' : (1048576 : Int) < (n : Int) := by omega
    go_enter Try.func12, Try.ntmps12
    go_wp2_with (go_at_call 26; refine (szGoodS_big _ _ _ _ _ (by omega) (by omega) (by omega) (by omega)).mono ?_; rintro e w' ⟨rfl, rfl⟩)
    go_ret
    exact ⟨rfl, Below.refl _ _⟩
  have hn : n ≤ 1048576 := by omega
  have h' : ¬ (1048576 : Int) < (n : Int) := by omega
  have e1 : decide (cs = cs) = true := by simp
  generalize hf : sharesV cs l r = F
  have HF := Lib.hid hf
  clear hf
  obtain ⟨⟨x1, x2⟩, ⟨y1, y2⟩, cd⟩ := F
  go_enter Try.func12, Try.ntmps12
  go_wp2_with (go_at_call 26; refine (szGoodS_small _ _ _ _ _ (by omega) (by omega)).mono ?_; rintro e w' ⟨rfl, rfl⟩)
  refine (toGoodS_any _ _ _ _ _ h hn).mono ?_
  rintro e w1 ⟨rfl, ho1, hb1⟩
  go_wp2_with fail
  refine (specSharesOf_any _ _ _ _ _ _ _ ho1.recs hn).mono ?_
  rw [HF.out]
  rintro e w2 ⟨rfl, hb2⟩
  have hB2 := belowT hb2 hb1
  go_wp2_with fail
  have hB2' : Below w.heap.size w ((w2.alloc (.cells #[.int .i64 x1, .int .i64 x2] 52)).alloc (.cells #[.int .i64 y1, .int .i64 y2] 52)) := (hB2.alloc hB2.size _).alloc (by have := hB2.size; simp; omega) _
  refine (toGoodS_any _ _ _ _ _ (h.keep hB2') hn).mono ?_
  rintro e w3 ⟨rfl, ho3, hb3⟩
  have hB3 := belowT hb3 hB2'
  have hr3 : Recs w3 (some ⟨w2.heap.size + 1 + 1, 0, none⟩) n cs := by have := ho3.recs; rw [World.size_alloc, World.size_alloc] at this; exact this
  go_wp2_with fail
  refine (implSharesOf_any _ _ _ _ _ _ _ hr3 hn).mono ?_
  rw [HF.out]
  rintro e w5 ⟨rfl, hb5⟩
  have hB5 := belowT hb5 hB3
  have hb35 := belowT hb5 hb3
  obtain ⟨hc, hf⟩ := bcell hb35
  have hq0 : w5.cell? ⟨w2.heap.size, 0, none⟩ = some (.int .i64 x1) := by rw [hc _ _ (by simp; omega)]; go_cell
  have hq1 : w5.cell? ⟨w2.heap.size, 1, none⟩ = some (.int .i64 x2) := by rw [hc _ _ (by simp; omega)]; go_cell
  have hp0 : w5.cell? ⟨w2.heap.size + 1, 0, none⟩ = some (.int .i64 y1) := by rw [hc _ _ (by simp)]; go_cell
  have hp1 : w5.cell? ⟨w2.heap.size + 1, 1, none⟩ = some (.int .i64 y2) := by rw [hc _ _ (by simp)]; go_cell
  have hlt := World.block_lt_of_cell? _ _ hq0
  have hlt2 := World.block_lt_of_cell? _ _ hp0
  clear hc hf
  go_wp2_with fail
  refine (eqFraction_any _ _ _).mono ?_
  rintro e w6 ⟨rfl, hb6⟩
  have hB5' : Below w.heap.size w ((w5.alloc (.cells #[.int .i64 x1, .int .i64 x2] 52)).alloc (.cells #[.int .i64 y1, .int .i64 y2] 52)) := (hB5.alloc hB5.size _).alloc (by have := hB5.size; simp; omega) _
  have hB6 := belowT hb6 hB5'
  have m0 : w6.cell? ⟨w2.heap.size + 1, 0, none⟩ = some (.int .i64 y1) := keepc hb6 (by rw [World.cell?_alloc_lt _ _ _ (by simp at hlt2 ⊢; omega), World.cell?_alloc_lt _ _ _ (by simp at hlt2 ⊢; omega)]; exact hp0)
  have m1 : w6.cell? ⟨w2.heap.size + 1, 1, none⟩ = some (.int .i64 y2) := keepc hb6 (by rw [World.cell?_alloc_lt _ _ _ (by simp at hlt2 ⊢; omega), World.cell?_alloc_lt _ _ _ (by simp at hlt2 ⊢; omega)]; exact hp1)
  have m2 : w6.cell? ⟨w5.heap.size + 1, 0, none⟩ = some (.int .i64 y1) := keepc hb6 (by go_cell)
  have m3 : w6.cell? ⟨w5.heap.size + 1, 1, none⟩ = some (.int .i64 y2) := keepc hb6 (by go_cell)
  go_wp2_with fail
  refine (eqFraction_any _ _ _).mono ?_
  rintro e w7 ⟨rfl, hb7⟩
  have hB7 := belowT hb7 hB6
  go_wp2_with fail
  refine (toGoodS_any _ _ _ _ _ (h.keep hB7) hn).mono ?_
  rintro e w8 ⟨rfl, ho8, hb8⟩
  have hB8 := belowT hb8 hB7
  go_wp2_with fail
  refine (eqGoodS_any _ _ _ _ _ _ _ _ _ ((((((hr3.keep hb5).alloc _).alloc _).keep hb6).keep hb7).keep hb8) ho8.recs hn hn).mono ?_
  rintro e w' ⟨rfl, hb9⟩
  go_wp2
  go_ret
  exact ⟨rfl, belowT hb9 hB8⟩
end Go.Proofs.Ytkkipkmjhakknaa
