/- ThickestCourse: contracts and law. -/
import Derived.Test.YtelbedmfnmjehaaCourT
namespace Go.Proofs.Ytelbedmfnmjehaa
open Go.RowKit
set_option linter.unusedVariables false
set_option linter.unusedSimpArgs false

/-- The thickness of round j. -/
def pr (cs : List R3) (j : Nat) : Int := (cs.getD j (0, 0, 0)).2.1 * (cs.getD j (0, 0, 0)).2.2
theorem pr_of {cs : List R3} {j : Nat} {x : R3} (h : cs[j]? = some x) : pr cs j = x.2.1 * x.2.2 := by
  unfold pr; rw [List.getD_eq_getElem?_getD, h]; rfl
/-- The first thickest one of the first k. -/
def bestT (cs : List R3) : Nat → Nat
  | 0 => 0
  | k + 1 => if pr cs (bestT cs k) < pr cs k then k else bestT cs k
theorem bestT_lt (cs : List R3) (k : Nat) (hk : 1 ≤ k) : bestT cs k < k := by
  induction k with
  | zero => omega
  | succ k ih =>
    unfold bestT
    split
    · omega
    · by_cases h : k = 0
      · subst h; simp [bestT]
      · have := ih (by omega); omega
theorem bestT_le (cs : List R3) (k : Nat) : bestT cs k ≤ k := by
  rcases k with _ | k
  · simp [bestT]
  · have := bestT_lt cs (k + 1) (by omega); omega
theorem bestT_1 (cs : List R3) : bestT cs 1 = 0 := by simp [bestT]
def thickV (cs : List R3) : Int × Int := if okCs cs then (if cs.length = 0 then (0, 3) else (((bestT cs cs.length : Nat) : Int), 0)) else (0, 1)
theorem okC_bd {cs : List R3} (h : okCs cs = true) {j : Nat} {x : R3} (hx : cs[j]? = some x) : (100 ≤ x.1 ∧ x.1 ≤ 5000) ∧ (1 ≤ x.2.1 ∧ x.2.1 ≤ 300) ∧ (1 ≤ x.2.2 ∧ x.2.2 ≤ 6) ∧ (0 ≤ x.2.1 * x.2.2 ∧ x.2.1 * x.2.2 ≤ 1800) := by
  have h1 := (okCs_iff.1 h).1 x (List.mem_of_getElem? hx)
  obtain ⟨a, b, c⟩ := (okCourse_iff _ _ _).1 h1
  have := mulb (x := x.2.1) (y := x.2.2) (A := 300) (B := 6) (by omega) (by omega) (by omega) (by omega)
  exact ⟨a, b, c, by omega⟩

theorem l13Ok_eq (A : Option Addr) (n c : Nat) (cs : List R3) (v : Bool) (w : World) (h : Recs w A n cs) (hn : n ≤ 1048576) (hv : okCs cs = v) : Calls Try.prog 66 #[.slice A n c] w fun e w' => e = .returned (.bool v) ∧ w = w' := by
  subst hv; exact l13Ok_any A n c cs w h hn
theorem validCourses_eq (A : Option Addr) (n c : Nat) (cs : List R3) (v : Bool) (w : World) (h : Recs w A n cs) (hn : n ≤ 1048576) (hv : okCs cs = v) : Calls Try.prog 27 #[.slice A n c] w fun e w' => e = .returned (.bool v) ∧ Below w.heap.size w w' := by
  subst hv; exact validCourses_any A n c cs w h hn

theorem specThickest_any (A : Option Addr) (n c : Nat) (cs : List R3) (w : World) (h : Recs w A n cs) (hn : n ≤ 1048576) : Calls Try.prog 28 #[.slice A n c] w fun e w' => e = .returned (.tuple #[.int .i64 (thickV cs).1, .int .i64 (thickV cs).2]) ∧ Below w.heap.size w w' := by
  have hl := h.1
  cases ho : okCs cs
  · have hv : thickV cs = (0, 1) := by simp [thickV, ho]
    rw [hv]
    clear hv
    go_enter Try.func28, Try.ntmps28
    go_wp2_with (go_at_call 66; refine (l13Ok_eq _ _ _ _ false _ h hn ho).mono ?_; rintro e w' ⟨rfl, rfl⟩)
    go_ret2
    exact ⟨rfl, Below.refl _ _⟩
  by_cases hz : n = 0
  · have hv : thickV cs = (0, 3) := by simp [thickV, ho, hl, hz]
    rw [hv]
    have ht : ((n : Int) == 0) = true := by rw [beq_iff_eq]; omega
    clear hv hl hz
    go_enter Try.func28, Try.ntmps28
    go_wp2_with (go_at_call 66; refine (l13Ok_eq _ _ _ _ true _ h hn ho).mono ?_; rintro e w' ⟨rfl, rfl⟩)
    go_ret2
    exact ⟨rfl, Below.refl _ _⟩
  have hv : thickV cs = (((bestT cs n : Nat) : Int), 0) := by simp [thickV, ho, hl, hz]
  rw [hv]
  have ht : ((n : Int) == 0) = false := by rw [beq_eq_false_iff_ne]; omega
  have HL := Lib.hid hl
  have hn1 : 1 ≤ n := by omega
  clear hv hl hz
  go_enter Try.func28, Try.ntmps28
  go_wp2_with (go_at_call 66; refine (l13Ok_eq _ _ _ _ true _ h hn ho).mono ?_; rintro e w' ⟨rfl, rfl⟩)
  go_loopw [4, 5] (fun m i wr => ∃ k : Nat, 1 ≤ k ∧ k ≤ n ∧ i = .int .i64 k ∧ m = .int .i64 (bestT cs k : Nat) ∧ ∃ q, wr = w.drewN q) (fun _ i _ => n - (intOf i).toNat)
  case atStart => exact ⟨1, Nat.le_refl _, hn1, by simp, by rw [bestT_1]; simp, 0, rfl⟩
  case round =>
    obtain ⟨k, hk1, hk, rfl, rfl, nw, rfl⟩ := hrel
    by_cases hlt : k < n
    · have hbl := bestT_lt cs k hk1
      have hbs : bestT cs (k + 1) = if pr cs (bestT cs k) < pr cs k then k else bestT cs k := rfl
      have Hbs := Lib.hid hbs
      clear hbs
      generalize bestT cs k = j at *
      obtain ⟨b, off, x, rfl, hblt, hx, hc0, hc1, hc2⟩ := h.at_ hlt
      obtain ⟨b', off', y, hA, hblt', hy, hd0, hd1, hd2⟩ := h.at_ (show j < n by omega)
      injection hA with hA
      injection hA with hA1 hA2
      subst hA1 hA2
      obtain ⟨x1, x2, x3, x4⟩ := okC_bd ho hx
      obtain ⟨y1, y2, y3, y4⟩ := okC_bd ho hy
      have Hx := Lib.hid hx
      have Hy := Lib.hid hy
      clear hx hy
      have k0 : (0 : Int) ≤ (k : Int) := by omega
      have k1 : (k : Int) < (n : Int) := by omega
      have j0 : (0 : Int) ≤ (j : Int) := by omega
      have j1 : (j : Int) < (n : Int) := by omega
      by_cases hp : y.2.1 * y.2.2 < x.2.1 * x.2.2
      · go_wp2
        go_quiet (fail)
        go_wp2
        go_roundw
        case rel => exact ⟨k + 1, by omega, by omega, by go_num, by rw [Hbs.out, pr_of Hy.out, pr_of Hx.out, if_pos hp], (by first | exact ⟨_, rfl⟩ | exact drew2 _ _ _ | exact ⟨0, rfl⟩)⟩
        case measure => simp [intOf]; omega
      · go_wp2
        go_quiet (fail)
        go_wp2
        go_roundw
        case rel => exact ⟨k + 1, by omega, by omega, by go_num, by rw [Hbs.out, pr_of Hy.out, pr_of Hx.out, if_neg (by omega)], (by first | exact ⟨_, rfl⟩ | exact drew2 _ _ _ | exact ⟨0, rfl⟩)⟩
        case measure => simp [intOf]; omega
    · obtain rfl : k = n := by omega
      go_wp2
      go_ret2
      exact ⟨rfl, below_drewN (Below.refl _ _) _⟩

theorem implThickest_any (A : Option Addr) (n c : Nat) (cs : List R3) (w : World) (h : Recs w A n cs) (hn : n ≤ 1048576) : Calls Try.prog 29 #[.slice A n c] w fun e w' => e = .returned (.tuple #[.int .i64 (thickV cs).1, .int .i64 (thickV cs).2]) ∧ Below w.heap.size w w' := by
  have hl := h.1
  cases ho : okCs cs
  · have hv : thickV cs = (0, 1) := by simp [thickV, ho]
    rw [hv]
    clear hv
    go_enter Try.func29, Try.ntmps29
    go_wp2_with (go_at_call 27; refine (validCourses_eq _ _ _ _ false _ h hn ho).mono ?_; rintro e w1 ⟨rfl, hb1⟩)
    go_ret2
    exact ⟨rfl, hb1⟩
  by_cases hz : n = 0
  · have hv : thickV cs = (0, 3) := by simp [thickV, ho, hl, hz]
    rw [hv]
    have ht : ((n : Int) == 0) = true := by rw [beq_iff_eq]; omega
    clear hv hl hz
    go_enter Try.func29, Try.ntmps29
    go_wp2_with (go_at_call 27; refine (validCourses_eq _ _ _ _ true _ h hn ho).mono ?_; rintro e w1 ⟨rfl, hb1⟩)
    go_ret2
    exact ⟨rfl, hb1⟩
  have hv : thickV cs = (((bestT cs n : Nat) : Int), 0) := by simp [thickV, ho, hl, hz]
  rw [hv]
  have ht : ((n : Int) == 0) = false := by rw [beq_eq_false_iff_ne]; omega
  have HL := Lib.hid hl
  have hn1 : 1 ≤ n := by omega
  clear hv hl hz
  go_enter Try.func29, Try.ntmps29
  go_wp2_with (go_at_call 27; refine (validCourses_eq _ _ _ _ true _ h hn ho).mono ?_; rintro e w1 ⟨rfl, hb1⟩)
  go_loopw [4, 15] (fun m i wr => ∃ k : Nat, k ≤ n ∧ i = .int .i64 k ∧ m = .int .i64 (bestT cs k : Nat) ∧ Below w.heap.size w wr) (fun _ i _ => n - (intOf i).toNat)
  case atStart => exact ⟨0, Nat.zero_le _, rfl, rfl, hb1⟩
  case round =>
    clear hb1
    obtain ⟨k, hk, rfl, rfl, hbw⟩ := hrel
    by_cases hlt : k < n
    · have hbl := bestT_le cs k
      have hbs : bestT cs (k + 1) = if pr cs (bestT cs k) < pr cs k then k else bestT cs k := rfl
      have Hbs := Lib.hid hbs
      clear hbs
      generalize bestT cs k = j at *
      obtain ⟨b, off, x, rfl, hblt, hx, hc0, hc1, hc2⟩ := (h.keep hbw).at_ hlt
      obtain ⟨b', off', y, hA, hblt', hy, hd0, hd1, hd2⟩ := (h.keep hbw).at_ (show j < n by omega)
      injection hA with hA
      injection hA with hA1 hA2
      subst hA1 hA2
      obtain ⟨x1, x2, x3, x4⟩ := okC_bd ho hx
      obtain ⟨y1, y2, y3, y4⟩ := okC_bd ho hy
      have Hx := Lib.hid hx
      have Hy := Lib.hid hy
      clear hx hy
      have k0 : (0 : Int) ≤ (k : Int) := by omega
      have k1 : (k : Int) < (n : Int) := by omega
      have j0 : (0 : Int) ≤ (j : Int) := by omega
      have j1 : (j : Int) < (n : Int) := by omega
      by_cases hp : y.2.1 * y.2.2 < x.2.1 * x.2.2
      · go_wp2
        go_quiet (fail)
        go_wp2
        go_roundw
        case rel => exact ⟨k + 1, by omega, by go_num, by rw [Hbs.out, pr_of Hy.out, pr_of Hx.out, if_pos hp], below_drewN (hbw.alloc hbw.size _) _⟩
        case measure => simp [intOf]; omega
      · go_wp2
        go_quiet (fail)
        go_wp2
        go_roundw
        case rel => exact ⟨k + 1, by omega, by go_num, by rw [Hbs.out, pr_of Hy.out, pr_of Hx.out, if_neg (by omega)], below_drewN (hbw.alloc hbw.size _) _⟩
        case measure => simp [intOf]; omega
    · obtain rfl : k = n := by omega
      go_wp2
      go_ret2
      exact ⟨rfl, hbw⟩
theorem law_FnExactThickestCourse (w : World) (A : Option Addr) (n c : Nat) (cs : List R3) (h0 : IsRecs3 w A n cs)  : Calls Try.prog 8 #[.slice A n c] w fun e w' => e = .returned (.bool true) ∧ Below w.heap.size w w' := by
  have hm := h0.1
  unfold maxLen at hm
  have h := h0.2.1
  by_cases hbig : 1048576 < n
  · have h' : (1048576 : Int) < (n : Int) := by omega
    go_enter Try.func8, Try.ntmps8
    go_wp2_with (go_at_call 21; refine (szCourseS_big _ _ _ _ _ (by omega) (by omega) (by omega) (by omega)).mono ?_; rintro e w' ⟨rfl, rfl⟩)
    go_ret
    exact ⟨rfl, Below.refl _ _⟩
  have hn : n ≤ 1048576 := by omega
  have h' : ¬ (1048576 : Int) < (n : Int) := by omega
  have e1 : decide (cs = cs) = true := by simp
  go_enter Try.func8, Try.ntmps8
  go_wp2_with (go_at_call 21; refine (szCourseS_small _ _ _ _ _ (by omega) (by omega)).mono ?_; rintro e w' ⟨rfl, rfl⟩)
  refine (toCourseS_any _ _ _ _ _ h hn).mono ?_
  rintro e w1 ⟨rfl, ho1, hb1⟩
  go_wp2_with fail
  refine (specThickest_any _ _ _ _ _ ho1.recs hn).mono ?_
  rintro e w2 ⟨rfl, hb2⟩
  have hB2 := belowT hb2 hb1
  go_wp2_with fail
  refine (toCourseS_any _ _ _ _ _ (h.keep hB2) hn).mono ?_
  rintro e w3 ⟨rfl, ho3, hb3⟩
  have hB3 := belowT hb3 hB2
  go_wp2_with fail
  refine (implThickest_any _ _ _ _ _ ho3.recs hn).mono ?_
  rintro e w5 ⟨rfl, hb5⟩
  have hB5 := belowT hb5 hB3
  go_wp2_with fail
  refine (toCourseS_any _ _ _ _ _ (h.keep hB5) hn).mono ?_
  rintro e w7 ⟨rfl, ho7, hb7⟩
  have hB7 := belowT hb7 hB5
  go_wp2_with fail
  refine (eqCourseS_any _ _ _ _ _ _ _ _ _ ((ho3.recs.keep hb5).keep hb7) ho7.recs hn hn).mono ?_
  rintro e w' ⟨rfl, hb9⟩
  go_wp2
  go_ret
  exact ⟨rfl, belowT hb9 hB7⟩
end Go.Proofs.Ytelbedmfnmjehaa
