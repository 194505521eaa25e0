/- LengthOfAll: the program's side, and the law. -/
import Derived.Test.YtelbedmfnmjehaaCourW
import Derived.Test.YtelbedmfnmjehaaCour2
namespace Go.Proofs.Ytelbedmfnmjehaa
open Go.RowKit
set_option linter.unusedVariables false
set_option linter.unusedSimpArgs false

theorem implLengthOfAll_any (A : Option Addr) (n c : Nat) (cs : List R3) (s : Int) (w : World) (h : Recs w A n cs) (hn : n ≤ 1048576) : Calls Try.prog 31 #[.slice A n c, .int .i64 s] w fun e w' => e = .returned (.tuple #[.int .i64 (lenAllV cs s).1, .int .i64 (lenAllV cs s).2.1, .int .i64 (lenAllV cs s).2.2]) ∧ Below w.heap.size w w' := by
  have hl := h.1
  cases ho : okCs cs
  · have hv : lenAllV cs s = (0, 0, 1) := by simp [lenAllV, ho]
    rw [hv]
    clear hv
    go_enter Try.func31, Try.ntmps31
    go_wp2_with (go_at_call 27; refine (validCourses_eq _ _ _ _ false _ h hn ho).mono ?_; rintro e w1 ⟨rfl, hb1⟩)
    go_ret3
    exact ⟨rfl, hb1⟩
  cases hi : inB s 3 60
  · have hv : lenAllV cs s = (0, 0, 2) := by simp [lenAllV, ho, hi]
    rw [hv]
    clear hv
    go_enter Try.func31, Try.ntmps31
    go_wp2_with (first | (go_at_call 27; refine (validCourses_eq _ _ _ _ true _ h hn ho).mono ?_; rintro e w1 ⟨rfl, hb1⟩) | (go_at_call 55; refine (areStakes_any _ _).mono ?_; rintro e w' ⟨rfl, rfl⟩))
    go_ret3
    exact ⟨rfl, hb1⟩
  have is := (inB_iff _ _ _).1 hi
  have hle := (okCs_iff.1 ho).2
  have hv : lenAllV cs s = (sumLo cs, sumHi s cs, 0) := by simp [lenAllV, ho, hi]
  rw [hv]
  clear hv
  have hbd := sums_bd ho is
  have HB := Lib.hid hbd
  have HL := Lib.hid hl
  clear hbd hl
  go_enter Try.func31, Try.ntmps31
  go_wp2_with (first | (go_at_call 27; refine (validCourses_eq _ _ _ _ true _ h hn ho).mono ?_; rintro e w1 ⟨rfl, hb1⟩) | (go_at_call 55; refine (areStakes_any _ _).mono ?_; rintro e w' ⟨rfl, rfl⟩))
  go_loopw [7, 8, 19] (fun p q i wr => ∃ k : Nat, k ≤ n ∧ i = .int .i64 k ∧ p = .int .i64 (sumLo (cs.take k)) ∧ q = .int .i64 (sumHi s (cs.take k)) ∧ Below w.heap.size w wr) (fun _ _ i _ => n - (intOf i).toNat)
  case atStart => exact ⟨0, Nat.zero_le _, rfl, by simp [sumLo], by simp [sumHi], hb1⟩
  case round =>
    clear hb1
    obtain ⟨k, hk, rfl, rfl, rfl, hbw⟩ := hrel
    have hbk := HB.out k (by rw [HL.out]; exact hk)
    have hn60 : n ≤ 60 := by rw [← HL.out]; exact hle
    by_cases hlt : k < n
    · obtain ⟨b, off, x, rfl, hblt, hx, hc0, hc1, hc2⟩ := (h.keep hbw).at_ hlt
      obtain ⟨x1, x2, x3, x4⟩ := okC_bd ho hx
      obtain ⟨g1, g2, g3, g4⟩ := mostL_bd x1 x2 is
      have b1 := mulb (x := x.2.2) (y := x.1) (A := 6) (B := 5000) (by omega) (by omega) (by omega) (by omega)
      have b2 := mulb (x := x.2.2) (y := mostL x.1 x.2.1 s) (A := 6) (B := 41000) (by omega) (by omega) (by omega) (by omega)
      have hs1 : sumLo (cs.take (k + 1)) = sumLo (cs.take k) + x.2.2 * x.1 := by rw [take_snoc' hx, sumLo_snoc]
      have hs2 : sumHi s (cs.take (k + 1)) = sumHi s (cs.take k) + x.2.2 * mostL x.1 x.2.1 s := by rw [take_snoc' hx, sumHi_snoc]
      have H1 := Lib.hid hs1
      have H2 := Lib.hid hs2
      have k0 : (0 : Int) ≤ (k : Int) := by omega
      have k1 : (k : Int) < (n : Int) := by omega
      clear hs1 hs2 hx g1 g2
      have wr1 : IntKind.i64.wrap (x.2.2 * mostL x.1 x.2.1 s) = x.2.2 * mostL x.1 x.2.1 s := IntWalk.i64_in _ (by omega)
      have wr2 : IntKind.i64.wrap (sumHi s (cs.take k) + x.2.2 * mostL x.1 x.2.1 s) = sumHi s (cs.take k) + x.2.2 * mostL x.1 x.2.1 s := IntWalk.i64_in _ (by omega)
      have W1 := Lib.hid wr1
      have W2 := Lib.hid wr2
      clear wr1 wr2
      go_wp2
      have hb3 : Below w.heap.size w (wr.alloc (.cells #[.int .i64 x.1, .int .i64 x.2.1, .int .i64 x.2.2] 26)) := hbw.alloc hbw.size _
      have q0 : (wr.alloc (.cells #[.int .i64 x.1, .int .i64 x.2.1, .int .i64 x.2.2] 26)).cell? ⟨wr.heap.size, 0, none⟩ = some (.int .i64 x.1) := by go_cell
      have q1 : (wr.alloc (.cells #[.int .i64 x.1, .int .i64 x.2.1, .int .i64 x.2.2] 26)).cell? ⟨wr.heap.size, 1, none⟩ = some (.int .i64 x.2.1) := by go_cell
      have q2 : (wr.alloc (.cells #[.int .i64 x.1, .int .i64 x.2.1, .int .i64 x.2.2] 26)).cell? ⟨wr.heap.size, 2, none⟩ = some (.int .i64 x.2.2) := by go_cell
      have wr1 := W1.out
      have wr2 := W2.out
      go_region_held3 (fun w' => w'.cell? ⟨wr.heap.size, 0, none⟩ = some (.int .i64 x.1) ∧ w'.cell? ⟨wr.heap.size, 1, none⟩ = some (.int .i64 x.2.1) ∧ w'.cell? ⟨wr.heap.size, 2, none⟩ = some (.int .i64 x.2.2) ∧ Below w.heap.size w w')
        (((try go_split_ands); (try dsimp only); (repeat' apply And.intro)) <;> first | assumption | exact keepd (by assumption) | exact Below.drew (by assumption) | exact keepc hb2 (by assumption) | exact belowT hb2 (by assumption))
        ((go_at_call 56; refine (mostLength_any x.1 x.2.1 x.2.2 s _ x1 x2 is).mono ?_; rintro e w' ⟨rfl, hb2⟩))
      clear wr1 wr2
      go_wp2
      go_roundw
      case rel => exact ⟨k + 1, by omega, by go_num, by rw [H1.out], by rw [H2.out], by go_split_ands; assumption⟩
      case measure => simp [intOf]; omega
    · obtain rfl : k = n := by omega
      go_wp2
      go_ret3
      exact ⟨by rw [List.take_of_length_le (by rw [HL.out]; omega)]; rfl, hbw⟩

theorem law_FnExactLengthOfAll (w : World) (A : Option Addr) (n c : Nat) (cs : List R3) (h0 : IsRecs3 w A n cs) (s : Int) (_ : (Lit.int .i64 s).wf = true) : Calls Try.prog 9 #[.slice A n c, .int .i64 s] w fun e w' => e = .returned (.bool true) ∧ Below w.heap.size w w' := by
  have hm := h0.1
  unfold maxLen at hm
  have h := h0.2.1
  by_cases hbig : 1048576 < n
  · have h' : (1048576 : Int) < (n : Int) := by omega
    go_enter Try.func9, Try.ntmps9
    go_wp2_with (go_at_call 21; refine (szCourseS_big _ _ _ _ _ (by omega) (by omega) (by omega) (by omega)).mono ?_; rintro e w' ⟨rfl, rfl⟩)
    go_ret
    exact ⟨rfl, Below.refl _ _⟩
  have hn : n ≤ 1048576 := by omega
  have h' : ¬ (1048576 : Int) < (n : Int) := by omega
  have e1 : decide (cs = cs) = true := by simp
  go_enter Try.func9, Try.ntmps9
  go_wp2_with (go_at_call 21; refine (szCourseS_small _ _ _ _ _ (by omega) (by omega)).mono ?_; rintro e w' ⟨rfl, rfl⟩)
  refine (toCourseS_any _ _ _ _ _ h hn).mono ?_
  rintro e w1 ⟨rfl, ho1, hb1⟩
  go_wp2_with fail
  refine (specLengthOfAll_any _ _ _ _ _ _ ho1.recs hn).mono ?_
  rintro e w2 ⟨rfl, hb2⟩
  have hB2 := belowT hb2 hb1
  go_wp2_with fail
  refine (toCourseS_any _ _ _ _ _ (h.keep hB2) hn).mono ?_
  rintro e w3 ⟨rfl, ho3, hb3⟩
  have hB3 := belowT hb3 hB2
  go_wp2_with fail
  refine (implLengthOfAll_any _ _ _ _ _ _ ho3.recs hn).mono ?_
  rintro e w5 ⟨rfl, hb5⟩
  have hB5 := belowT hb5 hB3
  go_wp2_with fail
  refine (toCourseS_any _ _ _ _ _ (h.keep hB5) hn).mono ?_
  rintro e w7 ⟨rfl, ho7, hb7⟩
  have hB7 := belowT hb7 hB5
  go_wp2_with fail
  refine (eqCourseS_any _ _ _ _ _ _ _ _ _ ((ho3.recs.keep hb5).keep hb7) ho7.recs hn hn).mono ?_
  rintro e w' ⟨rfl, hb9⟩
  go_wp2
  go_ret
  exact ⟨rfl, belowT hb9 hB7⟩
end Go.Proofs.Ytelbedmfnmjehaa
