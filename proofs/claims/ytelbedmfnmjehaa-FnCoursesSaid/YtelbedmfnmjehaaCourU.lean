/- SameCourses: contracts and law. -/
import Derived.Test.YtelbedmfnmjehaaCourT
import Derived.Laws.StructEq
namespace Go.Proofs.Ytelbedmfnmjehaa
open Go.RowKit
set_option linter.unusedVariables false
set_option linter.unusedSimpArgs false

theorem neqC (x y : R3) (w : World) : (Go.binOp BinOp.neq 26 (Value.agg #[.int .i64 x.1, .int .i64 x.2.1, .int .i64 x.2.2]) (Value.agg #[.int .i64 y.1, .int .i64 y.2.1, .int .i64 y.2.2])).run Try.prog w = .ok (.bool (!eqR x y)) w := by
  have u3 := Try.underlying2
  have a3 := Try.isAgg2
  have z3 := Try.sizeOf2
  have hS : Try.prog.underlying 26 = some (.struct (Try.prog.fieldsOf 26)) := by kernel_rfl
  have hp : Try.prog.stoodInHeld 26 = false := by kernel_rfl
  simp only [Go.binOp, Op.equal, Op.maxDepth]
  rw [show (10000 : Nat) = 9999 + 1 from rfl]
  simp only [Sem.run_bind]
  rw [run_equalIn_agg w 9999 26 _ _ hS hp]
  simp only [Program.fieldsOf, Try.underlying26]
  go_simp
  by_cases h1 : x.1 = y.1 <;> by_cases h2 : x.2.1 = y.2.1 <;> by_cases h3 : x.2.2 = y.2.2 <;> simp [h1, h2, h3, eqR]

theorem specSameCourses_any (A B : Option Addr) (n p c d : Nat) (cs ds : List R3) (w : World) (h : Recs w A n cs) (g : Recs w B p ds) (hn : n ≤ 1048576) (hp : p ≤ 1048576) : Calls Try.prog 22 #[.slice A n c, .slice B p d] w fun e w' =>
    e = .returned (.bool (decide (cs = ds))) ∧ ∃ q, w' = w.drewN q := by
  have hgt : Try.prog.eqGuardType Try.prog.depth 26 = false := by kernel_rfl
  by_cases hnm : n = p
  case neg =>
    have hne : ((n : Int) != (p : Int)) = true := by rw [bne_iff_ne]; omega
    have hv : decide (cs = ds) = false := by rw [decide_eq_false_iff_not]; intro e; exact hnm (by rw [← h.1, ← g.1, e])
    rw [hv]
    clear hv hnm
    go_enter Try.func22, Try.ntmps22
    go_wp2
    go_ret
    exact ⟨rfl, 0, rfl⟩
  subst hnm
  have hne : ((n : Int) != (n : Int)) = false := by simp
  go_enter Try.func22, Try.ntmps22
  go_wp2
  go_loopw [5] (fun i wr => ∃ k : Nat, k ≤ n ∧ i = .int .i64 k ∧ EqTillR cs ds k ∧ ∃ q, wr = w.drewN q) (fun i _ => n - (intOf i).toNat)
  case atStart => exact ⟨0, Nat.zero_le _, rfl, fun _ hj => absurd hj (by omega), 0, rfl⟩
  case round =>
    obtain ⟨k, hk, rfl, he, nw, rfl⟩ := hrel
    by_cases hlt : k < n
    · obtain ⟨b, off, x, rfl, hblt, hx, hc0, hc1, hc2⟩ := h.at_ hlt
      obtain ⟨b2, off2, y, rfl, hblt2, hy, hd0, hd1, hd2⟩ := g.at_ hlt
      have Hx := Lib.hid hx
      have Hy := Lib.hid hy
      clear hx hy
      have k0 : (0 : Int) ≤ (k : Int) := by omega
      have k1 : (k : Int) < (n : Int) := by omega
      have hq := neqC x y
      cases hxy : eqR x y
      · rw [hxy] at hq
        go_wp2
        go_quiet (fail)
        go_wp2
        go_ret
        exact ⟨ret_bool (by symm; rw [decide_eq_false_iff_not]; exact neR_of_at Hx.out Hy.out (fun e => by rw [(eqR_iff x y).2 e] at hxy; cases hxy)), (by first | exact ⟨_, rfl⟩ | exact drew2 _ _ _ | exact ⟨0, rfl⟩)⟩
      · rw [hxy] at hq
        go_wp2
        go_quiet (fail)
        go_wp2
        go_roundw
        case rel => exact ⟨k + 1, by omega, by go_num, eqTillR_succ he Hx.out Hy.out ((eqR_iff x y).1 hxy), (by first | exact ⟨_, rfl⟩ | exact drew2 _ _ _ | exact ⟨0, rfl⟩)⟩
        case measure => simp [intOf]; omega
    · obtain rfl : k = n := by omega
      go_wp2
      go_ret
      exact ⟨ret_bool (by symm; rw [decide_eq_true_iff]; exact eqR_of_till h.1 g.1 he), (by first | exact ⟨_, rfl⟩ | exact drew2 _ _ _ | exact ⟨0, rfl⟩)⟩
theorem slicesEqualC_any (A B : Option Addr) (n p c d : Nat) (cs ds : List R3) (w : World) (h : Recs w A n cs) (g : Recs w B p ds) (hn : n ≤ 1048576) (hp : p ≤ 1048576) : Calls Try.prog 64 #[.slice A n c, .slice B p d] w fun e w' =>
    e = .returned (.bool (decide (cs = ds))) ∧ ∃ q, w' = w.drewN q := by
  have hgt : Try.prog.eqGuardType Try.prog.depth 26 = false := by kernel_rfl
  by_cases hnm : n = p
  case neg =>
    have hne : ((n : Int) != (p : Int)) = true := by rw [bne_iff_ne]; omega
    have hv : decide (cs = ds) = false := by rw [decide_eq_false_iff_not]; intro e; exact hnm (by rw [← h.1, ← g.1, e])
    rw [hv]
    clear hv hnm
    go_enter Try.func64, Try.ntmps64
    go_wp2
    go_ret
    exact ⟨rfl, 0, rfl⟩
  subst hnm
  have hne : ((n : Int) != (n : Int)) = false := by simp
  go_enter Try.func64, Try.ntmps64
  go_wp2
  go_loopw [13] (fun i wr => ∃ k : Nat, k ≤ n ∧ i = .int .i64 k ∧ EqTillR cs ds k ∧ ∃ q, wr = w.drewN q) (fun i _ => n - (intOf i).toNat)
  case atStart => exact ⟨0, Nat.zero_le _, rfl, fun _ hj => absurd hj (by omega), 0, rfl⟩
  case round =>
    obtain ⟨k, hk, rfl, he, nw, rfl⟩ := hrel
    by_cases hlt : k < n
    · obtain ⟨b, off, x, rfl, hblt, hx, hc0, hc1, hc2⟩ := h.at_ hlt
      obtain ⟨b2, off2, y, rfl, hblt2, hy, hd0, hd1, hd2⟩ := g.at_ hlt
      have Hx := Lib.hid hx
      have Hy := Lib.hid hy
      clear hx hy
      have k0 : (0 : Int) ≤ (k : Int) := by omega
      have k1 : (k : Int) < (n : Int) := by omega
      have hq := neqC x y
      cases hxy : eqR x y
      · rw [hxy] at hq
        go_wp2
        go_quiet (fail)
        go_wp2
        go_ret
        exact ⟨ret_bool (by symm; rw [decide_eq_false_iff_not]; exact neR_of_at Hx.out Hy.out (fun e => by rw [(eqR_iff x y).2 e] at hxy; cases hxy)), (by first | exact ⟨_, rfl⟩ | exact drew2 _ _ _ | exact ⟨0, rfl⟩)⟩
      · rw [hxy] at hq
        go_wp2
        go_quiet (fail)
        go_wp2
        go_roundw
        case rel => exact ⟨k + 1, by omega, by go_num, eqTillR_succ he Hx.out Hy.out ((eqR_iff x y).1 hxy), (by first | exact ⟨_, rfl⟩ | exact drew2 _ _ _ | exact ⟨0, rfl⟩)⟩
        case measure => simp [intOf]; omega
    · obtain rfl : k = n := by omega
      go_wp2
      go_ret
      exact ⟨ret_bool (by symm; rw [decide_eq_true_iff]; exact eqR_of_till h.1 g.1 he), (by first | exact ⟨_, rfl⟩ | exact drew2 _ _ _ | exact ⟨0, rfl⟩)⟩
theorem implSameCourses_any (A B : Option Addr) (n p c d : Nat) (cs ds : List R3) (w : World) (h : Recs w A n cs) (g : Recs w B p ds) (hn : n ≤ 1048576) (hp : p ≤ 1048576) : Calls Try.prog 24 #[.slice A n c, .slice B p d] w fun e w' =>
    e = .returned (.bool (decide (cs = ds))) ∧ ∃ q, w' = w.drewN q := by
  go_enter Try.func24, Try.ntmps24
  go_wp2_with (go_at_call 64; refine (slicesEqualC_any _ _ _ _ _ _ _ _ _ h g hn hp).mono ?_; rintro e w' ⟨rfl, q, rfl⟩)
  go_ret
  exact ⟨rfl, _, rfl⟩

theorem law_FnExactSameCourses (w : World) (A : Option Addr) (n c : Nat) (cs : List R3) (h0 : IsRecs3 w A n cs) (B : Option Addr) (p d : Nat) (ds : List R3) (g0 : IsRecs3 w B p ds) : Calls Try.prog 6 #[.slice A n c, .slice B p d] w fun e w' => e = .returned (.bool true) ∧ Below w.heap.size w w' := by
  have hm := h0.1
  have gm := g0.1
  unfold maxLen at hm gm
  have h := h0.2.1
  have g := g0.2.1
  by_cases hbig : 1048576 < n
  · have h' : (1048576 : Int) < (n : Int) := by omega
    go_enter Try.func6, Try.ntmps6
    go_wp2_with (go_at_call 21; refine (szCourseS_big _ _ _ _ _ (by omega) (by omega) (by omega) (by omega)).mono ?_; rintro e w' ⟨rfl, rfl⟩)
    go_ret
    exact ⟨rfl, Below.refl _ _⟩
  have hn : n ≤ 1048576 := by omega
  have h' : ¬ (1048576 : Int) < (n : Int) := by omega
  by_cases gbig : 1048576 < n + p
  · have g' : (1048576 : Int) - (n : Int) < (p : Int) := by omega
    have h2 : (0 : Int) ≤ 1048576 - (n : Int) := by omega
    go_enter Try.func6, Try.ntmps6
    go_wp2_with fail
    refine (szCourseS_small _ _ _ _ _ (by omega) (by omega)).mono ?_
    rintro e w' ⟨rfl, rfl⟩
    go_wp2_with fail
    refine (szCourseS_big _ _ _ _ _ (by omega) (by omega) (by omega) (by omega)).mono ?_
    rintro e w' ⟨rfl, rfl⟩
    go_wp2
    go_ret
    exact ⟨rfl, Below.refl _ _⟩
  have hp : p ≤ 1048576 := by omega
  have g' : (p : Int) ≤ 1048576 - (n : Int) := by omega
  have g2 : (0 : Int) ≤ 1048576 - (n : Int) := by omega
  have g3 : (0 : Int) ≤ 1048576 - (n : Int) - (p : Int) := by omega
  go_enter Try.func6, Try.ntmps6
  go_wp2_with fail
  refine (szCourseS_small _ _ _ _ _ (by omega) (by omega)).mono ?_
  rintro e w' ⟨rfl, rfl⟩
  go_wp2_with fail
  refine (szCourseS_small _ _ _ _ _ (by omega) (by omega)).mono ?_
  rintro e w' ⟨rfl, rfl⟩
  go_wp2_with fail
  refine (toCourseS_any _ _ _ _ _ h hn).mono ?_
  rintro e w1 ⟨rfl, ho1, hb1⟩
  go_wp2_with fail
  refine (toCourseS_any _ _ _ _ _ (g.keep hb1) hp).mono ?_
  rintro e w2 ⟨rfl, ho2, hb2⟩
  have hB2 := belowT hb2 hb1
  go_wp2_with fail
  refine (specSameCourses_any _ _ _ _ _ _ _ _ _ (ho1.recs.keep hb2) ho2.recs hn hp).mono ?_
  rintro e w' ⟨rfl, q1, rfl⟩
  have hB3 : Below w.heap.size w (w2.drewN q1) := below_drewN hB2 _
  go_wp2_with fail
  refine (toCourseS_any _ _ _ _ _ (h.keep hB3) hn).mono ?_
  rintro e w4 ⟨rfl, ho4, hb4⟩
  have hB4 := belowT hb4 hB3
  go_wp2_with fail
  refine (toCourseS_any _ _ _ _ _ (g.keep hB4) hp).mono ?_
  rintro e w5 ⟨rfl, ho5, hb5⟩
  have hB5 := belowT hb5 hB4
  go_wp2_with fail
  refine (implSameCourses_any _ _ _ _ _ _ _ _ _ (ho4.recs.keep hb5) ho5.recs hn hp).mono ?_
  rintro e w' ⟨rfl, q2, rfl⟩
  have hB6 : Below w.heap.size w (w5.drewN q2) := below_drewN hB5 _
  have r4 : Recs (w5.drewN q2) _ n cs := (ho4.recs.keep hb5).drewN q2
  have r5 : Recs (w5.drewN q2) _ p ds := ho5.recs.drewN q2
  go_wp2_with fail
  refine (toCourseS_any _ _ _ _ _ (h.keep hB6) hn).mono ?_
  rintro e w7 ⟨rfl, ho7, hb7⟩
  have hB7 := belowT hb7 hB6
  go_wp2_with fail
  refine (eqCourseS_any _ _ _ _ _ _ _ _ _ (r4.keep hb7) ho7.recs hn hn).mono ?_
  rintro e w8 ⟨rfl, hb8⟩
  have hB8 := belowT hb8 hB7
  have e1 : decide (cs = cs) = true := by simp
  have e2 : decide (ds = ds) = true := by simp
  go_wp2_with fail
  refine (toCourseS_any _ _ _ _ _ (g.keep hB8) hp).mono ?_
  rintro e w9 ⟨rfl, ho9, hb9⟩
  have hB9 := belowT hb9 hB8
  go_wp2_with fail
  refine (eqCourseS_any _ _ _ _ _ _ _ _ _ (((r5.keep hb7).keep hb8).keep hb9) ho9.recs hp hp).mono ?_
  rintro e w10 ⟨rfl, hb10⟩
  go_wp2
  go_ret
  exact ⟨rfl, belowT hb10 hB9⟩
end Go.Proofs.Ytelbedmfnmjehaa
