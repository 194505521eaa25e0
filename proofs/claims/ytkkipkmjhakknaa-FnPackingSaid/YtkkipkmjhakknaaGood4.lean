/- CentreOf: contracts and law. -/
import Derived.Test.YtkkipkmjhakknaaGood3
namespace Go.Proofs.Ytkkipkmjhakknaa
open Go.RowKit
set_option linter.unusedVariables false
set_option linter.unusedSimpArgs false

theorem build_zero (w : World) : (Instr.build 52 #[]).run Try.prog w = .ok (.agg #[.int .i64 0, .int .i64 0]) w := run_build w 52 _ _ (by kernel_rfl)
/-- The result's own block, in every later world. -/
theorem res_facts {w : World} (w2 : World) (hb2 : Below (w.alloc (.cells #[.int .i64 0, .int .i64 0] 52)).heap.size (w.alloc (.cells #[.int .i64 0, .int .i64 0] 52)) w2) :
    w2.cell? ⟨w.heap.size, 0, none⟩ = some (.int .i64 0) ∧ w2.cell? ⟨w.heap.size, 1, none⟩ = some (.int .i64 0) ∧ w2.frozen? ⟨w.heap.size, 0, none⟩ = false ∧ w2.frozen? ⟨w.heap.size, 1, none⟩ = false ∧ Below w.heap.size w w2 := by
  obtain ⟨hc, hf⟩ := bcell hb2
  refine ⟨by rw [hc _ _ (by simp)]; go_cell, by rw [hc _ _ (by simp)]; go_cell, by rw [hf _ _ (by simp)]; simp, by rw [hf _ _ (by simp)]; simp, ?_⟩
  exact ((Below.refl _ _).alloc (Nat.le_refl _) _).trans (hb2.mono (by simp))

def centreF (cs : List R2) : Int × Int × Int := if okGs cs then (if cs.length = 0 then (0, 0, 3) else (lowN (momentI 0 cs).toNat (weightI cs).toNat, lowD (momentI 0 cs).toNat (weightI cs).toNat, 0)) else (0, 0, 1)
theorem moment0_nonneg {cs : List R2} (ho : okGs cs = true) : 0 ≤ momentI 0 cs := by
  have h := (okGs_iff.1 ho).1
  clear ho
  induction cs with
  | nil => simp [momentI]
  | cons y ys ih =>
    have h1 := (okG_iff y).1 (h y (by simp))
    have h2 := ih (fun x hx => h x (by simp [hx]))
    have h3 : 0 ≤ y.1 * (y.2 - 0) := Int.mul_nonneg (by omega) (by omega)
    simp only [momentI]
    omega

theorem implCentreOf_any (A : Option Addr) (n c : Nat) (cs : List R2) (w : World) (h : Recs w A n cs) (hn : n ≤ 1048576) : Calls Try.prog 39 #[.slice A n c] w fun e w' => e = .returned (.tuple #[.agg #[.int .i64 (centreF cs).1, .int .i64 (centreF cs).2.1], .int .i64 (centreF cs).2.2]) ∧ Below w.heap.size w w' := by
  have hbz := build_zero
  have hl := h.1
  cases ho : okGs cs
  · have hv : centreF cs = (0, 0, 1) := by simp [centreF, ho]
    rw [hv]
    clear hv
    go_enter Try.func39, Try.ntmps39
    go_wp2_with fail
    refine (validGoods_eq _ _ _ _ false _ (h.alloc _) hn ho).mono ?_
    rintro e w1 ⟨rfl, hb1⟩
    obtain ⟨hq0, hq1, hr0, hr1, hbz⟩ := res_facts _ hb1
    go_wp2
    refine bodyPost_ret (by simp [results, Try.results39, go_sem, hq0, hq1]; try rfl) rfl ?_
    exact ⟨rfl, by (repeat' (first | (with_reducible exact Below.refl _ _) | (with_reducible assumption) | (with_reducible refine Below.drew ?_) | (with_reducible refine below_drewN ?_ _) | (with_reducible refine Below.setCell ?_ ?_ _) | (with_reducible refine Below.alloc ?_ ?_ _) | go_size))⟩
  by_cases hz : n = 0
  · have hv : centreF cs = (0, 0, 3) := by simp [centreF, ho, hl, hz]
    rw [hv]
    have ht : ((n : Int) == 0) = true := by rw [beq_iff_eq]; omega
    clear hv hl hz
    go_enter Try.func39, Try.ntmps39
    go_wp2_with fail
    refine (validGoods_eq _ _ _ _ true _ (h.alloc _) hn ho).mono ?_
    rintro e w1 ⟨rfl, hb1⟩
    obtain ⟨hq0, hq1, hr0, hr1, hbz⟩ := res_facts _ hb1
    go_wp2
    refine bodyPost_ret (by simp [results, Try.results39, go_sem, hq0, hq1]; try rfl) rfl ?_
    exact ⟨rfl, by (repeat' (first | (with_reducible exact Below.refl _ _) | (with_reducible assumption) | (with_reducible refine Below.drew ?_) | (with_reducible refine below_drewN ?_ _) | (with_reducible refine Below.setCell ?_ ?_ _) | (with_reducible refine Below.alloc ?_ ?_ _) | go_size))⟩
  have hv : centreF cs = (lowN (momentI 0 cs).toNat (weightI cs).toNat, lowD (momentI 0 cs).toNat (weightI cs).toNat, 0) := by simp [centreF, ho, hl, hz]
  rw [hv]
  have ht : ((n : Int) == 0) = false := by rw [beq_eq_false_iff_ne]; omega
  have hmb := momentAll_bd ho (a := 0) (by omega)
  have hm0 := moment0_nonneg ho
  have hwb := weightAll_bd ho
  rw [hl] at hwb
  have hw1 : 1 ≤ weightI cs := by omega
  clear hv hl hz
  go_enter Try.func39, Try.ntmps39
  go_wp2_with fail
  refine (validGoods_eq _ _ _ _ true _ (h.alloc _) hn ho).mono ?_
  rintro e w1 ⟨rfl, hb1⟩
  go_wp2_with fail
  refine (momentOf_any _ _ _ _ _ _ ((h.alloc _).keep hb1) hn ho (by omega)).mono ?_
  rintro e w2 ⟨rfl, hb2⟩
  have hB2 := belowT hb2 hb1
  go_wp2_with fail
  refine (weightOf_any _ _ _ _ _ ((h.alloc _).keep hB2) hn ho).mono ?_
  rintro e w3 ⟨rfl, hb3⟩
  have hB3 := belowT hb3 hB2
  go_wp2_with fail
  refine (lowest_i _ _ _ hm0 (by omega) hw1 (by omega)).mono ?_
  rintro e w4 ⟨rfl, hb4⟩
  have hB4 := belowT hb4 hB3
  obtain ⟨hq0, hq1, hr0, hr1, hbz⟩ := res_facts _ hB4
  have hlt := World.block_lt_of_cell? _ _ hq0
  go_wp2
  refine bodyPost_ret (by simp [results, Try.results39, go_sem, hq0, hq1]; try rfl) rfl ?_
  exact ⟨rfl, by (repeat' (first | (with_reducible exact Below.refl _ _) | (with_reducible assumption) | (with_reducible refine Below.drew ?_) | (with_reducible refine below_drewN ?_ _) | (with_reducible refine Below.setCell ?_ ?_ _) | (with_reducible refine Below.alloc ?_ ?_ _) | go_size))⟩

theorem specCentreOf_any (A : Option Addr) (n c : Nat) (cs : List R2) (w : World) (h : Recs w A n cs) (hn : n ≤ 1048576) : Calls Try.prog 46 #[.slice A n c] w fun e w' => e = .returned (.tuple #[.agg #[.int .i64 (centreF cs).1, .int .i64 (centreF cs).2.1], .int .i64 (centreF cs).2.2]) ∧ Below w.heap.size w w' := by
  have hbz := build_zero
  have hl := h.1
  cases ho : okGs cs
  · have hv : centreF cs = (0, 0, 1) := by simp [centreF, ho]
    rw [hv]
    clear hv
    go_enter Try.func46, Try.ntmps46
    go_wp2_with (go_at_call 66; refine (l14Ok_eq _ _ _ _ false _ (h.alloc _) hn ho).mono ?_; rintro e w' ⟨rfl, rfl⟩)
    go_returns
    exact ⟨rfl, by (repeat' (first | (with_reducible exact Below.refl _ _) | (with_reducible assumption) | (with_reducible refine Below.drew ?_) | (with_reducible refine below_drewN ?_ _) | (with_reducible refine Below.setCell ?_ ?_ _) | (with_reducible refine Below.alloc ?_ ?_ _) | go_size))⟩
  by_cases hz : n = 0
  · have hv : centreF cs = (0, 0, 3) := by simp [centreF, ho, hl, hz]
    rw [hv]
    have ht : ((n : Int) == 0) = true := by rw [beq_iff_eq]; omega
    clear hv hl hz
    go_enter Try.func46, Try.ntmps46
    go_wp2_with (go_at_call 66; refine (l14Ok_eq _ _ _ _ true _ (h.alloc _) hn ho).mono ?_; rintro e w' ⟨rfl, rfl⟩)
    go_returns
    exact ⟨rfl, by (repeat' (first | (with_reducible exact Below.refl _ _) | (with_reducible assumption) | (with_reducible refine Below.drew ?_) | (with_reducible refine below_drewN ?_ _) | (with_reducible refine Below.setCell ?_ ?_ _) | (with_reducible refine Below.alloc ?_ ?_ _) | go_size))⟩
  have hv : centreF cs = (lowN (momentI 0 cs).toNat (weightI cs).toNat, lowD (momentI 0 cs).toNat (weightI cs).toNat, 0) := by simp [centreF, ho, hl, hz]
  rw [hv]
  have ht : ((n : Int) == 0) = false := by rw [beq_eq_false_iff_ne]; omega
  have hmb := momentAll_bd ho (a := 0) (by omega)
  have hm0 := moment0_nonneg ho
  have hwb := weightAll_bd ho
  rw [hl] at hwb
  have hw1 : 1 ≤ weightI cs := by omega
  clear hv hl hz
  go_enter Try.func46, Try.ntmps46
  go_wp2_with (first | (go_at_call 66; refine (l14Ok_eq _ _ _ _ true _ (h.alloc _) hn ho).mono ?_; rintro e w' ⟨rfl, rfl⟩) | (go_at_call 73; refine (l14Moment_any _ _ _ _ _ _ (h.alloc _) hn ho (by omega)).mono ?_; rintro e w' ⟨rfl, q1, rfl⟩) | (go_at_call 70; refine (l14Weight_any _ _ _ _ _ ((h.alloc _).drewN _) hn ho).mono ?_; rintro e w' ⟨rfl, rfl⟩))
  refine (l02Make_i _ _ _ hm0 (by omega) hw1 (by omega)).mono ?_
  rintro e w2 ⟨rfl, hb2⟩
  have hB2 : Below (w.alloc (.cells #[.int .i64 0, .int .i64 0] 52)).heap.size (w.alloc (.cells #[.int .i64 0, .int .i64 0] 52)) w2 := belowT hb2 (below_drewN (Below.refl _ _) _)
  obtain ⟨hq0, hq1, hr0, hr1, hbz⟩ := res_facts _ hB2
  have hlt := World.block_lt_of_cell? _ _ hq0
  go_wp2
  refine bodyPost_ret (by simp [results, Try.results46, go_sem, hq0, hq1]; try rfl) rfl ?_
  exact ⟨rfl, by (repeat' (first | (with_reducible exact Below.refl _ _) | (with_reducible assumption) | (with_reducible refine Below.drew ?_) | (with_reducible refine below_drewN ?_ _) | (with_reducible refine Below.setCell ?_ ?_ _) | (with_reducible refine Below.alloc ?_ ?_ _) | go_size))⟩
theorem law_FnExactCentreOf (w : World) (A : Option Addr) (n c : Nat) (cs : List R2) (h0 : IsRecs2 w A n cs)  : Calls Try.prog 11 #[.slice A n c] w fun e w' => e = .returned (.bool true) ∧ Below w.heap.size w w' := by
  have hm := h0.1
  unfold maxLen at hm
  have h := h0.2.1
  by_cases hbig : 1048576 < n
  · have h' : (1048576 : Int) < (n : Int) := by omega
    go_enter Try.func11, Try.ntmps11
    go_wp2_with (go_at_call 26; refine (szGoodS_big _ _ _ _ _ (by omega) (by omega) (by omega) (by omega)).mono ?_; rintro e w' ⟨rfl, rfl⟩)
    go_ret
    exact ⟨rfl, Below.refl _ _⟩
  have hn : n ≤ 1048576 := by omega
  have h' : ¬ (1048576 : Int) < (n : Int) := by omega
  have e1 : decide (cs = cs) = true := by simp
  go_enter Try.func11, Try.ntmps11
  go_wp2_with (go_at_call 26; refine (szGoodS_small _ _ _ _ _ (by omega) (by omega)).mono ?_; rintro e w' ⟨rfl, rfl⟩)
  refine (toGoodS_any _ _ _ _ _ h hn).mono ?_
  rintro e w1 ⟨rfl, ho1, hb1⟩
  go_wp2_with fail
  refine (specCentreOf_any _ _ _ _ _ ho1.recs hn).mono ?_
  rintro e w2 ⟨rfl, hb2⟩
  have hB2 := belowT hb2 hb1
  go_wp2_with fail
  have hB2' : Below w.heap.size w (w2.alloc (.cells #[.int .i64 (centreF cs).1, .int .i64 (centreF cs).2.1] 52)) := hB2.alloc hB2.size _
  refine (toGoodS_any _ _ _ _ _ (h.keep hB2') hn).mono ?_
  rintro e w3 ⟨rfl, ho3, hb3⟩
  have hB3 := belowT hb3 hB2'
  have hr3 : Recs w3 (some ⟨w2.heap.size + 1, 0, none⟩) n cs := by have := ho3.recs; rw [World.size_alloc] at this; exact this
  go_wp2_with fail
  refine (implCentreOf_any _ _ _ _ _ hr3 hn).mono ?_
  rintro e w5 ⟨rfl, hb5⟩
  have hB5 := belowT hb5 hB3
  have hb35 := belowT hb5 hb3
  obtain ⟨hc, hf⟩ := bcell hb35
  have hq0 : w5.cell? ⟨w2.heap.size, 0, none⟩ = some (.int .i64 (centreF cs).1) := by rw [hc _ _ (by simp)]; go_cell
  have hq1 : w5.cell? ⟨w2.heap.size, 1, none⟩ = some (.int .i64 (centreF cs).2.1) := by rw [hc _ _ (by simp)]; go_cell
  have hlt := World.block_lt_of_cell? _ _ hq0
  clear hc hf
  go_wp2_with fail
  refine (eqFraction_any _ _ _).mono ?_
  rintro e w6 ⟨rfl, hb6⟩
  have hB5' : Below w.heap.size w (w5.alloc (.cells #[.int .i64 (centreF cs).1, .int .i64 (centreF cs).2.1] 52)) := hB5.alloc hB5.size _
  have hB6 := belowT hb6 hB5'
  go_wp2_with fail
  refine (toGoodS_any _ _ _ _ _ (h.keep hB6) hn).mono ?_
  rintro e w7 ⟨rfl, ho7, hb7⟩
  have hB7 := belowT hb7 hB6
  go_wp2_with fail
  refine (eqGoodS_any _ _ _ _ _ _ _ _ _ ((((hr3.keep hb5).alloc _).keep hb6).keep hb7) ho7.recs hn hn).mono ?_
  rintro e w' ⟨rfl, hb9⟩
  go_wp2
  go_ret
  exact ⟨rfl, belowT hb9 hB7⟩
end Go.Proofs.Ytkkipkmjhakknaa
