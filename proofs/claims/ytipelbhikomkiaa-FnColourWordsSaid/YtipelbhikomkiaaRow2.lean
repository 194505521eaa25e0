/- RowOf: contracts and law. -/
import Derived.Test.YtipelbhikomkiaaRow
namespace Go.Proofs.Ytipelbhikomkiaa
open Go.RowKit
set_option linter.unusedVariables false
set_option linter.unusedSimpArgs false

def rowV (s : ByteArray) (n r : Int) : ByteArray × Int := if wCode s n = 0 then (if inB r 0 100 then (strOfNums (rowI s (r.toNat * n.toNat) n.toNat), 0) else (⟨#[]⟩, 2)) else (⟨#[]⟩, wCode s n)
def RowPost (s : ByteArray) (n r : Int) (w : World) (e : Ending) (w' : World) : Prop := e = .returned (.tuple #[.string (rowV s n r).1, .int .i64 (rowV s n r).2]) ∧ Below w.heap.size w w'
theorem implRowOf_any (s : ByteArray) (n r : Int) (w : World) (hs : s.size ≤ maxLen) : Calls Try.prog 25 #[.string s, .int .i64 n, .int .i64 r] w (RowPost s n r w) := by
  by_cases hq : wCode s n = 0
  case neg =>
    have hv : rowV s n r = (⟨#[]⟩, wCode s n) := by simp [rowV, hq]
    have HV := Lib.hid hv
    clear hv
    generalize hc : wCode s n = c at *
    have Hq := Lib.hid hc
    clear hc
    go_enter Try.func25, Try.ntmps25
    go_wp2_with (go_at_call 49; refine (wordCode_eq _ _ _ _ hs Hq.out).mono ?_; rintro e w' ⟨rfl, rfl⟩)
    go_ret2
    exact ⟨by rw [HV.out]; rfl, Below.refl _ _⟩
  have Hq := Lib.hid hq
  clear hq
  cases hr : inB r 0 100
  · have hv : rowV s n r = (⟨#[]⟩, 2) := by simp [rowV, Hq.out, hr]
    have HV := Lib.hid hv
    clear hv
    go_enter Try.func25, Try.ntmps25
    go_wp2_with (first | (go_at_call 49; refine (wordCode_eq _ _ _ _ hs Hq.out).mono ?_; rintro e w' ⟨rfl, rfl⟩) | (go_at_call 51; refine (within_eq _ _ _ _ _ (by assumption)).mono ?_; rintro e w' ⟨rfl, rfl⟩))
    go_ret2
    exact ⟨by rw [HV.out]; rfl, Below.refl _ _⟩
  obtain ⟨g1, g2⟩ := wCode_good Hq.out
  obtain ⟨n0, n1⟩ := (inB_iff _ _ _).1 g2
  obtain ⟨r0, r1⟩ := (inB_iff _ _ _).1 hr
  obtain ⟨_, l1, l2⟩ := okWord_iff.1 g1
  obtain ⟨n, rfl⟩ := Int.eq_ofNat_of_zero_le (show 0 ≤ n by omega)
  obtain ⟨r, rfl⟩ := Int.eq_ofNat_of_zero_le (show 0 ≤ r by omega)
  have hv : rowV s n r = (strOfNums (rowI s (r * n) n), 0) := by simp [rowV, Hq.out, hr]
  have HV := Lib.hid hv
  have hp := mulb (x := (r : Int)) (y := (n : Int)) (A := 100) (B := 60) (by omega) (by omega) (by omega) (by omega)
  have hc : r * n ≤ 10000 := by have := Nat.mul_le_mul (show r ≤ 100 by omega) (show n ≤ 60 by omega); omega
  clear hv g1 g2
  go_enter Try.func25, Try.ntmps25
  go_wp2_with (first | (go_at_call 49; refine (wordCode_eq _ _ _ _ hs Hq.out).mono ?_; rintro e w' ⟨rfl, rfl⟩) | (go_at_call 51; refine (within_eq _ _ _ _ _ (by assumption)).mono ?_; rintro e w' ⟨rfl, rfl⟩) | (go_at_call 55; refine (along_any _ (r * n) _ _ (by push_cast; rfl) _ l1 l2 hc (by omega)).mono ?_; rintro e w' ⟨rfl, hb⟩))
  go_ret2
  exact ⟨by rw [HV.out]; rfl, hb⟩
theorem specRowOf_any (s : ByteArray) (n r : Int) (w : World) (hs : s.size ≤ maxLen) : Calls Try.prog 24 #[.string s, .int .i64 n, .int .i64 r] w (RowPost s n r w) := by
  by_cases hq : wCode s n = 0
  case neg =>
    have hv : rowV s n r = (⟨#[]⟩, wCode s n) := by simp [rowV, hq]
    have HV := Lib.hid hv
    clear hv
    generalize hc : wCode s n = c at *
    have Hq := Lib.hid hc
    clear hc
    go_enter Try.func24, Try.ntmps24
    go_wp2_with (go_at_call 48; refine (l12Code_eq _ _ _ _ hs Hq.out).mono ?_; rintro e w' ⟨rfl, rfl⟩)
    go_ret2
    exact ⟨by rw [HV.out]; rfl, Below.refl _ _⟩
  have Hq := Lib.hid hq
  clear hq
  cases hr : inB r 0 100
  · have hv : rowV s n r = (⟨#[]⟩, 2) := by simp [rowV, Hq.out, hr]
    have HV := Lib.hid hv
    clear hv
    go_enter Try.func24, Try.ntmps24
    go_wp2_with (first | (go_at_call 48; refine (l12Code_eq _ _ _ _ hs Hq.out).mono ?_; rintro e w' ⟨rfl, rfl⟩) | (go_at_call 50; refine (l00In_eq _ _ _ _ _ (by assumption)).mono ?_; rintro e w' ⟨rfl, rfl⟩))
    go_ret2
    exact ⟨by rw [HV.out]; rfl, Below.refl _ _⟩
  obtain ⟨g1, g2⟩ := wCode_good Hq.out
  obtain ⟨n0, n1⟩ := (inB_iff _ _ _).1 g2
  obtain ⟨r0, r1⟩ := (inB_iff _ _ _).1 hr
  obtain ⟨_, l1, l2⟩ := okWord_iff.1 g1
  obtain ⟨n, rfl⟩ := Int.eq_ofNat_of_zero_le (show 0 ≤ n by omega)
  obtain ⟨r, rfl⟩ := Int.eq_ofNat_of_zero_le (show 0 ≤ r by omega)
  have hv : rowV s n r = (strOfNums (rowI s (r * n) n), 0) := by simp [rowV, Hq.out, hr]
  have HV := Lib.hid hv
  have hp := mulb (x := (r : Int)) (y := (n : Int)) (A := 100) (B := 60) (by omega) (by omega) (by omega) (by omega)
  have hc : r * n ≤ 10000 := by have := Nat.mul_le_mul (show r ≤ 100 by omega) (show n ≤ 60 by omega); omega
  clear hv g1 g2
  go_enter Try.func24, Try.ntmps24
  go_wp2_with (first | (go_at_call 48; refine (l12Code_eq _ _ _ _ hs Hq.out).mono ?_; rintro e w' ⟨rfl, rfl⟩) | (go_at_call 50; refine (l00In_eq _ _ _ _ _ (by assumption)).mono ?_; rintro e w' ⟨rfl, rfl⟩) | (go_at_call 54; refine (l12Row_any _ _ _ _ l1 l2 (by omega) (by omega)).mono ?_; rintro e w' ⟨rfl, hb⟩))
  go_ret2
  exact ⟨by rw [HV.out]; rfl, hb⟩

theorem law_FnExactRowOf (s : ByteArray) (hs : s.size ≤ maxLen) (n : Int) (_ : (Lit.int .i64 n).wf = true) (r : Int) (_ : (Lit.int .i64 r).wf = true) (w : World) : Calls Try.prog 8 #[.string s, .int .i64 n, .int .i64 r] w fun e w' => e = .returned (.bool true) ∧ Below w.heap.size w w' := by
  by_cases h : 1048576 < s.size
  · have h' : (1048576 : Int) < (s.size : Int) := by omega
    go_enter Try.func8, Try.ntmps8
    go_wp2
    go_ret
    exact ⟨rfl, Below.refl _ _⟩
  · have h' : ¬ (1048576 : Int) < (s.size : Int) := by omega
    clear h
    go_enter Try.func8, Try.ntmps8
    go_wp2_with fail
    refine (specRowOf_any _ _ _ _ hs).mono ?_
    rintro e w1 ⟨rfl, hb1⟩
    go_wp2_with fail
    refine (implRowOf_any _ _ _ _ hs).mono ?_
    rintro e w2 ⟨rfl, hb2⟩
    go_wp2_with fail
    go_ret
    exact ⟨rfl, belowT hb2 hb1⟩
end Go.Proofs.Ytipelbhikomkiaa
