/- FnWeavers: the law. -/
import Derived.Test.YtelbedmfnmjehaaCourD5
import Derived.Test.YtelbedmfnmjehaaCourV
import Derived.Test.YtelbedmfnmjehaaCour2
import Derived.Test.YtelbedmfnmjehaaCour4
import Derived.Test.YtelbedmfnmjehaaF6
namespace Go.Proofs.Ytelbedmfnmjehaa
open Go.RowKit
set_option linter.unusedVariables false
set_option linter.unusedSimpArgs false

theorem bestT_max (cs : List R3) : ∀ k j : Nat, j < k → pr cs j ≤ pr cs (bestT cs k)
  | 0, j, h => absurd h (by omega)
  | k + 1, j, h => by
    unfold bestT
    split
    · rcases Nat.lt_succ_iff_lt_or_eq.1 h with h1 | rfl
      · have := bestT_max cs k j h1; omega
      · omega
    · rcases Nat.lt_succ_iff_lt_or_eq.1 h with h1 | rfl
      · exact bestT_max cs k j h1
      · omega
theorem thick_facts {cs : List R3} {n : Nat} (hn : cs.length = n) (e : (thickV cs).2 = 0) : ∃ j : Nat, (thickV cs).1 = j ∧ j < n ∧ okCs cs = true ∧ ∀ k : Nat, k < n → pr cs k ≤ pr cs j := by
  unfold thickV at e ⊢
  cases ho : okCs cs
  · rw [ho] at e; simp at e
  rw [ho] at e
  simp only [if_true] at e ⊢
  by_cases h0 : cs.length = 0
  · rw [if_pos h0] at e; simp at e
  · rw [if_neg h0]
    exact ⟨_, rfl, by have := bestT_lt cs cs.length (by omega); omega, trivial, fun k hk => bestT_max cs _ k (by omega)⟩
theorem lenCV_facts {a t m s : Int} (e : (lenCV a t m s).2.2 = 0) : (lenCV a t m s).1 = m * a ∧ (lenCV a t m s).1 ≤ (lenCV a t m s).2.1 ∧ (0 ≤ m * a ∧ m * a ≤ 30000) := by
  unfold lenCV at e ⊢
  cases ho : okCourse a t m
  · rw [ho] at e; simp at e
  cases hs : inB s 3 60
  · rw [ho, hs] at e; simp at e
  simp only [if_true]
  obtain ⟨h1, h2, h3⟩ := (okCourse_iff _ _ _).1 ho
  have h4 := mostL_bd h1 h2 ((inB_iff _ _ _).1 hs)
  have h5 := mulb (x := m) (y := a) (A := 6) (B := 5000) (by omega) (by omega) (by omega) (by omega)
  refine ⟨trivial, ?_, by omega⟩
  have : a ≤ mostL a t s := by
    have := ovr_bd (a := 2 * t * s) (b := 10) h4.1 (by omega)
    unfold mostL; omega
  exact Int.mul_le_mul_of_nonneg_left this (by omega)
theorem rodsV_facts {a t m s r o : Int} (e : (rodsV a t m s r o).2 = 0) : ∃ hi : Int, lenCV a t m s = (m * a, hi, 0) ∧ 1 ≤ m ∧ m ≤ 6 ∧ 1 ≤ r - o ∧ r - o ≤ 3000 ∧ 0 ≤ o ∧ r ≤ 3000 ∧ hi ≤ (rodsV a t m s r o).1 * (r - o) ∧ (rodsV a t m s r o).1 % m = 0 ∧ m ≤ (rodsV a t m s r o).1 ∧ (rodsV a t m s r o).1 ≤ 300000 ∧ 0 ≤ hi ∧ hi ≤ 300000 := by
  unfold rodsV at e ⊢
  cases ho : okCourse a t m
  · rw [ho] at e; simp at e
  cases hs : inB s 3 60
  · rw [ho, hs] at e; simp at e
  cases hr : inB r 100 3000
  · rw [ho, hs, hr] at e; simp at e
  cases hv : inB o 0 3000
  · rw [ho, hs, hr, hv] at e; simp at e
  by_cases hro : r ≤ o
  · simp [ho, hs, hr, hv, hro] at e
  obtain ⟨h1, h2, h3⟩ := (okCourse_iff _ _ _).1 ho
  have hs' := (inB_iff _ _ _).1 hs
  have hr' := (inB_iff _ _ _).1 hr
  have hv' := (inB_iff _ _ _).1 hv
  have h4 := mostL_bd h1 h2 hs'
  rw [if_pos rfl, if_pos (by rfl), if_neg hro]
  refine ⟨m * mostL a t s, by unfold lenCV; rw [ho, hs]; rfl, h3.1, h3.2, by omega, by omega, by omega, by omega, ?_⟩
  have ht : 1 ≤ mostL a t s := by omega
  have hd : 1 ≤ r - o := by omega
  have o1 := ovr_bd (a := mostL a t s) (b := r - o) (by omega) (by omega)
  have e1 : ovr (mostL a t s) (r - o) = (mostL a t s + (r - o) - 1) / (r - o) := ovr_eq (by omega)
  have q1 := Int.mul_ediv_add_emod (mostL a t s + (r - o) - 1) (r - o)
  have q2 := Int.emod_nonneg (mostL a t s + (r - o) - 1) (show r - o ≠ 0 by omega)
  have q3 := Int.emod_lt_of_pos (mostL a t s + (r - o) - 1) (show 0 < r - o by omega)
  rw [← e1] at q1
  generalize mostL a t s = L at *
  generalize ovr L (r - o) = v at *
  generalize r - o = d at *
  have c1 : d * v = v * d := Int.mul_comm _ _
  have hv1 : 1 ≤ v := by
    rcases Int.lt_or_le v 1 with h | h
    · have : v = 0 := by omega
      subst this
      omega
    · exact h
  have hLv : L ≤ v * d := by omega
  have m1 := mulb (x := m) (y := L) (A := 6) (B := 41000) (by omega) (by omega) (by omega) (by omega)
  have m2 := mulb (x := m) (y := v) (A := 6) (B := 41000) (by omega) (by omega) (by omega) (by omega)
  have m3 : m * L ≤ m * (v * d) := Int.mul_le_mul_of_nonneg_left hLv (by omega)
  have m4 : m * 1 ≤ m * v := Int.mul_le_mul_of_nonneg_left hv1 (by omega)
  refine ⟨by rw [Int.mul_assoc]; exact m3, Int.mul_emod_right _ _, by omega, by omega, by omega, by omega⟩

set_option maxRecDepth 100000 in
set_option maxHeartbeats 8000000 in
theorem law_FnWeavers (w : World) (A : Option Addr) (n c : Nat) (zs : List Int) (h0 : IsInts .u8 w A n zs) : Calls Try.prog 12 #[.slice A n c] w fun e w' => e = .returned (.bool true) ∧ Below w.heap.size w w' := by
  have hY := bytes_of h0
  cases hbig : decide (4096 < n)
  case true =>
    go_enter Try.func12, Try.ntmps12
    go_wp2_with fail
    refine (f6big_any _ _ _ true _ hY.1 hbig).mono ?_
    rintro e w' ⟨rfl, rfl⟩
    go_wp2_with fail
    go_ret
    exact ⟨rfl, Below.refl _ _⟩
  go_enter Try.func12, Try.ntmps12
  go_wp2_with fail
  refine (f6big_any _ _ _ false _ hY.1 hbig).mono ?_
  rintro e w' ⟨rfl, rfl⟩
  clear hbig
  go_wp2_with fail
  refine (drawRodsFor_any _ _ _ _ hY).mono ?_
  rintro e w1 ⟨xa, xt, xm, st, rd, ov, rfl, hB1⟩
  go_wp2_with fail
  have x := B3.new w1 xa xt xm 26
  have hB := hB1.alloc hB1.size (.cells #[.int .i64 xa, .int .i64 xt, .int .i64 xm] 26)
  generalize w1.heap.size = X at *
  generalize w1.alloc (.cells #[.int .i64 xa, .int .i64 xt, .int .i64 xm] 26) = w2 at *
  clear hB1
  have RF := rodsV_facts (a := xa) (t := xt) (m := xm) (s := st) (r := rd) (o := ov)
  have RE := Lib.hid (show rodsV xa xt xm st rd ov = ((rodsV xa xt xm st rd ov).1, (rodsV xa xt xm st rd ov).2) from rfl)
  generalize (rodsV xa xt xm st rd ov).1 = v at *
  generalize (rodsV xa xt xm st rd ov).2 = bad at *
  have RF1 := Lib.hid RF
  clear RF
  have e1 := x.c0
  have e2 := x.c1
  have e3 := x.c2
  go_wp2_with fail
  refine (implRodsFor_any _ _ _ _ _ _ _).mono ?_
  rw [RE.out]
  rintro e w3 ⟨rfl, hb3⟩
  replace x := x.keep hb3
  replace hB := belowT hb3 hB
  clear e1 e2 e3 hb3
  have e1 := x.c0
  have e2 := x.c1
  have e3 := x.c2
  go_wp2_with fail
  refine (specRodsFor_any _ _ _ _ _ _ _).mono ?_
  rw [RE.out]
  rintro e w4 ⟨rfl, hb4⟩
  replace x := x.keep hb4
  replace hB := belowT hb4 hB
  clear e1 e2 e3 hb4
  go_wp2_with fail
  refine (drawThickest_any _ _ _ _ ((hY.keep hB).mono hB.size)).mono ?_
  rintro e w5 ⟨C, q, cq, cs, rfl, hr, hq, _, hb5⟩
  replace x := x.keep hb5
  replace hB := belowT hb5 hB
  clear hb5
  have hqn : q ≤ 1048576 := by omega
  have TF := Lib.hid (thick_facts (cs := cs) hr.1)
  have TE := Lib.hid (show thickV cs = ((thickV cs).1, (thickV cs).2) from rfl)
  generalize (thickV cs).1 = th at *
  generalize (thickV cs).2 = one at *
  go_wp2_with fail
  refine (implThickest_any _ _ _ _ _ hr hqn).mono ?_
  rw [TE.out]
  rintro e w6 ⟨rfl, hb6⟩
  replace x := x.keep hb6
  replace hr := hr.keep hb6
  replace hB := belowT hb6 hB
  clear hb6
  go_wp2_with fail
  refine (specThickest_any _ _ _ _ _ hr hqn).mono ?_
  rw [TE.out]
  rintro e w7 ⟨rfl, hb7⟩
  replace x := x.keep hb7
  replace hr := hr.keep hb7
  replace hB := belowT hb7 hB
  clear hb7
  go_wp2_with fail
  refine (drawLengthOfCourse_any _ _ _ _ ((hY.keep hB).mono hB.size)).mono ?_
  rintro e w8 ⟨ya, yt, ym, b, rfl, hb8⟩
  replace x := x.keep hb8
  replace hr := hr.keep hb8
  replace hB := belowT hb8 hB
  clear hb8
  go_wp2_with fail
  have y := B3.new w8 ya yt ym 26
  replace x := x.alloc (.cells #[.int .i64 ya, .int .i64 yt, .int .i64 ym] 26)
  replace hr := hr.alloc (.cells #[.int .i64 ya, .int .i64 yt, .int .i64 ym] 26)
  replace hB := hB.alloc hB.size (.cells #[.int .i64 ya, .int .i64 yt, .int .i64 ym] 26)
  generalize w8.heap.size = Y at *
  generalize w8.alloc (.cells #[.int .i64 ya, .int .i64 yt, .int .i64 ym] 26) = w9 at *
  have LF := Lib.hid (lenCV_facts (a := ya) (t := yt) (m := ym) (s := b))
  have LE := Lib.hid (show lenCV ya yt ym b = ((lenCV ya yt ym b).1, (lenCV ya yt ym b).2.1, (lenCV ya yt ym b).2.2) from rfl)
  generalize (lenCV ya yt ym b).1 = lo at *
  generalize (lenCV ya yt ym b).2.1 = hi at *
  generalize (lenCV ya yt ym b).2.2 = th3 at *
  have e1 := y.c0
  have e2 := y.c1
  have e3 := y.c2
  go_wp2_with fail
  refine (implLengthOfCourse_any _ _ _ _ _).mono ?_
  rw [LE.out]
  rintro e w10 ⟨rfl, hb10⟩
  replace x := x.keep hb10
  replace y := y.keep hb10
  replace hr := hr.keep hb10
  replace hB := belowT hb10 hB
  clear e1 e2 e3 hb10
  have e1 := y.c0
  have e2 := y.c1
  have e3 := y.c2
  go_wp2_with fail
  refine (specLengthOfCourse_any _ _ _ _ _).mono ?_
  rw [LE.out]
  rintro e w11 ⟨rfl, hb11⟩
  replace x := x.keep hb11
  replace y := y.keep hb11
  replace hr := hr.keep hb11
  replace hB := belowT hb11 hB
  clear e1 e2 e3 hb11
  have e1 := x.c0
  have e2 := x.c1
  have e3 := x.c2
  have f1 := y.c0
  have f2 := y.c1
  have f3 := y.c2
  have q1 : (bad != bad) = false := by simp
  have q2 : (v != v) = false := by simp
  have q3 : (one != one) = false := by simp
  have q4 : (th != th) = false := by simp
  have q5 : (th3 != th3) = false := by simp
  have q6 : (lo != lo) = false := by simp
  have q7 : (hi != hi) = false := by simp
  have hone : one = 0 ∨ one ≠ 0 := by omega
  rcases hone with rfl | hone
  · obtain ⟨j, hj, hjq, hoc, hmax⟩ := TF.out rfl
    subst hj
    have HM := Lib.hid hmax
    clear hmax
    obtain ⟨b', off', y', rfl, hblt2, hy', hcy0, hcy1, hcy2⟩ := hr.at_ hjq
    have hpj := pr_of hy'
    obtain ⟨_, yb1, yb2, yb3⟩ := okC_bd hoc hy'
    have Hpj := Lib.hid hpj
    have j0 : (0 : Int) ≤ (j : Int) := by omega
    have j1 : (j : Int) < (q : Int) := by omega
    clear hpj hy'
    go_wp2_with fail
    go_loopw [24] (fun i wr => ∃ k : Nat, k ≤ q ∧ i = .int .i64 k ∧ ∃ u, wr = w11.drewN u) (fun i _ => q - (intOf i).toNat)
    case atStart => exact ⟨0, Nat.zero_le _, rfl, 0, rfl⟩
    case round =>
      obtain ⟨k, hk, rfl, nw, rfl⟩ := hrel
      by_cases hlt : k < q
      · obtain ⟨b, off, x', e0, hblt, hx, hc0, hc1, hc2⟩ := hr.at_ hlt
        obtain ⟨rfl, rfl⟩ : b' = b ∧ off' = off := by simpa using e0
        obtain ⟨_, xb1, xb2, xb3⟩ := okC_bd hoc hx
        have hp1 := HM.out k hlt
        rw [pr_of hx, Hpj.out] at hp1
        have t1 : ¬ (y'.2.1 * y'.2.2 < x'.2.1 * x'.2.2) := by omega
        have t2 : decide (y'.2.1 * y'.2.2 < x'.2.1 * x'.2.2) = false := decide_eq_false t1
        have wr1 : IntKind.i64.wrap (y'.2.1 * y'.2.2) = y'.2.1 * y'.2.2 := IntWalk.i64_in _ (by omega)
        have wr2 : IntKind.i64.wrap (x'.2.1 * x'.2.2) = x'.2.1 * x'.2.2 := IntWalk.i64_in _ (by omega)
        have k0 : (0 : Int) ≤ (k : Int) := by omega
        have k1 : (k : Int) < (q : Int) := by omega
        clear hx e0
        go_wp2
        go_quiet (fail)
        clear wr1 wr2
        go_wp2
        go_roundw
        case rel => exact ⟨k + 1, by omega, by go_num, (by first | exact ⟨_, rfl⟩ | exact drew2 _ _ _ | exact ⟨0, rfl⟩)⟩
        case measure => simp [intOf]; omega
      · obtain rfl : k = q := by omega
        have hB9 : Below w.heap.size w (w11.drewN nw) := below_drewN hB _
        replace x := x.drewN nw
        replace y := y.drewN nw
        clear e1 e2 e3 f1 f2 f3
        have e1 := x.c0
        have e2 := x.c1
        have e3 := x.c2
        have f1 := y.c0
        have f2 := y.c1
        have f3 := y.c2
        have hth3 : th3 = 0 ∨ th3 ≠ 0 := by omega
        rcases hth3 with rfl | hth3
        · obtain ⟨g1, g2, g3, g4⟩ := LF.out rfl
          subst g1
          have q8 : (ym * ya != ym * ya) = false := by simp
          have q9 : ¬ hi < ym * ya := by omega
          have hbad : bad = 0 ∨ bad ≠ 0 := by omega
          rcases hbad with rfl | hbad
          · obtain ⟨hi2, g5, g6, g7, g8, g9, g10, g11, g12, g13, g14, g15, g16, g17⟩ := RF1.out rfl
            have G5 := Lib.hid g5
            have m1 := mulb (x := v) (y := rd - ov) (A := 300000) (B := 3000) (by omega) (by omega) (by omega) (by omega)
            have q10 : (v % xm == 0) = true := by rw [beq_iff_eq]; exact g13
            clear g5 g13
            go_wp2_with fail
            refine (implLengthOfCourse_any _ _ _ _ _).mono ?_
            rw [G5.out]
            rintro e w12 ⟨rfl, hb12⟩
            replace x := x.keep hb12
            clear e1 e2 e3 f1 f2 f3
            have e3 := x.c2
            go_wp2_with fail
            go_ret
            exact ⟨rfl, belowT hb12 hB9⟩
          · have d4 : (bad != 0) = true := by simpa using hbad
            clear hbad
            go_wp2_with fail
            go_ret
            exact ⟨rfl, hB9⟩
        · have d5 : (th3 == 0) = false := by rw [beq_eq_false_iff_ne]; exact hth3
          clear hth3
          have hbad : bad = 0 ∨ bad ≠ 0 := by omega
          rcases hbad with rfl | hbad
          · obtain ⟨hi2, g5, g6, g7, g8, g9, g10, g11, g12, g13, g14, g15, g16, g17⟩ := RF1.out rfl
            have G5 := Lib.hid g5
            have m1 := mulb (x := v) (y := rd - ov) (A := 300000) (B := 3000) (by omega) (by omega) (by omega) (by omega)
            have q10 : (v % xm == 0) = true := by rw [beq_iff_eq]; exact g13
            clear g5 g13
            go_wp2_with fail
            refine (implLengthOfCourse_any _ _ _ _ _).mono ?_
            rw [G5.out]
            rintro e w12 ⟨rfl, hb12⟩
            replace x := x.keep hb12
            clear e1 e2 e3 f1 f2 f3
            have e3 := x.c2
            go_wp2_with fail
            go_ret
            exact ⟨rfl, belowT hb12 hB9⟩
          · have d4 : (bad != 0) = true := by simpa using hbad
            clear hbad
            go_wp2_with fail
            go_ret
            exact ⟨rfl, hB9⟩
  · have d3 : (one == 0) = false := by rw [beq_eq_false_iff_ne]; exact hone
    clear hone
    have hB9 := hB
    · · skip
        clear e1 e2 e3 f1 f2 f3
        have e1 := x.c0
        have e2 := x.c1
        have e3 := x.c2
        have f1 := y.c0
        have f2 := y.c1
        have f3 := y.c2
        have hth3 : th3 = 0 ∨ th3 ≠ 0 := by omega
        rcases hth3 with rfl | hth3
        · obtain ⟨g1, g2, g3, g4⟩ := LF.out rfl
          subst g1
          have q8 : (ym * ya != ym * ya) = false := by simp
          have q9 : ¬ hi < ym * ya := by omega
          have hbad : bad = 0 ∨ bad ≠ 0 := by omega
          rcases hbad with rfl | hbad
          · obtain ⟨hi2, g5, g6, g7, g8, g9, g10, g11, g12, g13, g14, g15, g16, g17⟩ := RF1.out rfl
            have G5 := Lib.hid g5
            have m1 := mulb (x := v) (y := rd - ov) (A := 300000) (B := 3000) (by omega) (by omega) (by omega) (by omega)
            have q10 : (v % xm == 0) = true := by rw [beq_iff_eq]; exact g13
            clear g5 g13
            go_wp2_with fail
            refine (implLengthOfCourse_any _ _ _ _ _).mono ?_
            rw [G5.out]
            rintro e w12 ⟨rfl, hb12⟩
            replace x := x.keep hb12
            clear e1 e2 e3 f1 f2 f3
            have e3 := x.c2
            go_wp2_with fail
            go_ret
            exact ⟨rfl, belowT hb12 hB9⟩
          · have d4 : (bad != 0) = true := by simpa using hbad
            clear hbad
            go_wp2_with fail
            go_ret
            exact ⟨rfl, hB9⟩
        · have d5 : (th3 == 0) = false := by rw [beq_eq_false_iff_ne]; exact hth3
          clear hth3
          have hbad : bad = 0 ∨ bad ≠ 0 := by omega
          rcases hbad with rfl | hbad
          · obtain ⟨hi2, g5, g6, g7, g8, g9, g10, g11, g12, g13, g14, g15, g16, g17⟩ := RF1.out rfl
            have G5 := Lib.hid g5
            have m1 := mulb (x := v) (y := rd - ov) (A := 300000) (B := 3000) (by omega) (by omega) (by omega) (by omega)
            have q10 : (v % xm == 0) = true := by rw [beq_iff_eq]; exact g13
            clear g5 g13
            go_wp2_with fail
            refine (implLengthOfCourse_any _ _ _ _ _).mono ?_
            rw [G5.out]
            rintro e w12 ⟨rfl, hb12⟩
            replace x := x.keep hb12
            clear e1 e2 e3 f1 f2 f3
            have e3 := x.c2
            go_wp2_with fail
            go_ret
            exact ⟨rfl, belowT hb12 hB9⟩
          · have d4 : (bad != 0) = true := by simpa using hbad
            clear hbad
            go_wp2_with fail
            go_ret
            exact ⟨rfl, hB9⟩
end Go.Proofs.Ytelbedmfnmjehaa
