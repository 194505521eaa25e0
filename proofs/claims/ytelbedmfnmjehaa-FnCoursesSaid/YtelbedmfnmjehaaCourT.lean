/- SameCourses, ValidCourses: laws. -/
import Derived.Test.YtelbedmfnmjehaaCourS
namespace Go.Proofs.Ytelbedmfnmjehaa
open Go.RowKit
set_option linter.unusedVariables false
set_option linter.unusedSimpArgs false

theorem l13One_eq (x : R3) (v : Bool) (p o : Nat) (w : World) (ho : okC x = v) (h0 : w.cell? ⟨p, o, none⟩ = some (.int .i64 x.1)) (h1 : w.cell? ⟨p, o + 1, none⟩ = some (.int .i64 x.2.1)) (h2 : w.cell? ⟨p, o + 2, none⟩ = some (.int .i64 x.2.2)) :
    Calls Try.prog 50 #[.pointer (some ⟨p, o, none⟩)] w fun e w' => e = .returned (.bool v) ∧ w = w' := by
  subst ho; exact l13One_any _ _ _ p o w h0 h1 h2

theorem l13Ok_any (A : Option Addr) (n c : Nat) (cs : List R3) (w : World) (h : Recs w A n cs) (hn : n ≤ 1048576) : Calls Try.prog 66 #[.slice A n c] w fun e w' => e = .returned (.bool (okCs cs)) ∧ w = w' := by
  have HL := Lib.hid h.1
  go_enter Try.func66, Try.ntmps66
  go_wp2
  go_loop [3] (fun i => ∃ k : Nat, k ≤ n ∧ i = .int .i64 k ∧ OkTill cs k) (fun i => n - (intOf i).toNat)
  case atStart => exact ⟨0, Nat.zero_le _, rfl, fun j x hj _ => absurd hj (by omega)⟩
  case round =>
    obtain ⟨k, hk, rfl, he⟩ := hrel
    by_cases hlt : k < n
    · obtain ⟨b, off, x, rfl, hblt, hx, hc0, hc1, hc2⟩ := h.at_ hlt
      have Hx := Lib.hid hx
      clear hx
      cases ho : okC x
      · have Ho := Lib.hid ho
        clear ho
        go_wp2_with (go_at_call 50; refine (l13One_eq x false _ _ _ Ho.out hc0 hc1 hc2).mono ?_; rintro e w2 ⟨rfl, rfl⟩)
        go_ret
        exact ⟨ret_bool (okCs_bad Hx.out Ho.out).symm, rfl⟩
      · have Ho := Lib.hid ho
        clear ho
        go_wp2_with (go_at_call 50; refine (l13One_eq x true _ _ _ Ho.out hc0 hc1 hc2).mono ?_; rintro e w2 ⟨rfl, rfl⟩)
        go_round
        case rel => exact ⟨k + 1, by omega, by go_num, okTill_succ he Hx.out Ho.out⟩
        case measure => simp [intOf]; omega
    · obtain rfl : k = n := by omega
      go_wp2
      go_ret
      exact ⟨ret_bool (by rw [okCs_len HL.out he, Bool.eq_iff_iff]; simp; omega), rfl⟩

theorem specValidCourses_any (A : Option Addr) (n c : Nat) (cs : List R3) (w : World) (h : Recs w A n cs) (hn : n ≤ 1048576) : Calls Try.prog 26 #[.slice A n c] w fun e w' => e = .returned (.bool (okCs cs)) ∧ w = w' := by
  go_enter Try.func26, Try.ntmps26
  go_wp2_with (go_at_call 66; refine (l13Ok_any _ _ _ _ _ h hn).mono ?_; rintro e w2 ⟨rfl, rfl⟩)
  go_ret
  exact ⟨rfl, rfl⟩

theorem law_FnExactValidCourses (w : World) (A : Option Addr) (n c : Nat) (cs : List R3) (h0 : IsRecs3 w A n cs) : Calls Try.prog 7 #[.slice A n c] w fun e w' => e = .returned (.bool true) ∧ Below w.heap.size w w' := by
  have hm := h0.1
  unfold maxLen at hm
  have h := h0.2.1
  by_cases hbig : 1048576 < n
  · have h' : (1048576 : Int) < (n : Int) := by omega
    go_enter Try.func7, Try.ntmps7
    go_wp2_with (go_at_call 21; refine (szCourseS_big _ _ _ _ _ (by omega) (by omega) (by omega) (by omega)).mono ?_; rintro e w' ⟨rfl, rfl⟩)
    go_ret
    exact ⟨rfl, Below.refl _ _⟩
  have hn : n ≤ 1048576 := by omega
  have h' : ¬ (1048576 : Int) < (n : Int) := by omega
  go_enter Try.func7, Try.ntmps7
  go_wp2_with (go_at_call 21; refine (szCourseS_small _ _ _ _ _ (by omega) (by omega)).mono ?_; rintro e w' ⟨rfl, rfl⟩)
  refine (toCourseS_any _ _ _ _ _ h hn).mono ?_
  rintro e w1 ⟨rfl, ho1, hb1⟩
  go_wp2_with fail
  refine (specValidCourses_any _ _ _ _ _ ho1.recs hn).mono ?_
  rintro e w' ⟨rfl, rfl⟩
  go_wp2_with fail
  refine (toCourseS_any _ _ _ _ _ (h.keep hb1) hn).mono ?_
  rintro e w3 ⟨rfl, ho3, hb3⟩
  have hb4 := belowT hb3 hb1
  go_wp2_with fail
  refine (validCourses_any _ _ _ _ _ ho3.recs hn).mono ?_
  rintro e w5 ⟨rfl, hb5⟩
  have hb6 := belowT hb5 hb4
  go_wp2_with fail
  refine (toCourseS_any _ _ _ _ _ (h.keep hb6) hn).mono ?_
  rintro e w7 ⟨rfl, ho7, hb7⟩
  have hb8 := belowT hb7 hb6
  go_wp2_with fail
  refine (eqCourseS_any _ _ _ _ _ _ _ _ _ ((ho3.recs.keep hb5).keep hb7) ho7.recs hn hn).mono ?_
  rintro e w' ⟨rfl, hb9⟩
  go_wp2
  go_ret
  exact ⟨by simp, belowT hb9 hb8⟩
end Go.Proofs.Ytelbedmfnmjehaa
