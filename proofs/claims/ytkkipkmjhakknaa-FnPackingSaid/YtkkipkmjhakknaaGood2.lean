/- StrandsFor, TiltAt, CounterWeight: contracts and laws. -/
import Derived.Test.YtkkipkmjhakknaaGood
namespace Go.Proofs.Ytkkipkmjhakknaa
open Go.RowKit
set_option linter.unusedVariables false
set_option linter.unusedSimpArgs false

def strandsV (cs : List R2) (s f : Int) : Int × Int := if okGs cs then (if inB s 1 100000 && inB f 1 20 then (ovr (f * weightI cs) s, 0) else (0, 2)) else (0, 1)
theorem implStrandsFor_any (A : Option Addr) (n c : Nat) (cs : List R2) (s f : Int) (w : World) (h : Recs w A n cs) (hn : n ≤ 1048576) : Calls Try.prog 23 #[.slice A n c, .int .i64 s, .int .i64 f] w fun e w' => e = .returned (.tuple #[.int .i64 (strandsV cs s f).1, .int .i64 (strandsV cs s f).2]) ∧ Below w.heap.size w w' := by
  cases ho : okGs cs
  · have hv : strandsV cs s f = (0, 1) := by simp [strandsV, ho]
    rw [hv]
    clear hv
    go_enter Try.func23, Try.ntmps23
    go_wp2_with (go_at_call 29; refine (validGoods_eq _ _ _ _ false _ h hn ho).mono ?_; rintro e w1 ⟨rfl, hb1⟩)
    go_ret2
    exact ⟨rfl, hb1⟩
  cases g2 : inB s 1 100000
  · have hv : strandsV cs s f = (0, 2) := by simp [strandsV, ho, g2]
    rw [hv]
    clear hv
    go_enter Try.func23, Try.ntmps23
    go_wp2_with (first | (go_at_call 29; refine (validGoods_eq _ _ _ _ true _ h hn ho).mono ?_; rintro e w1 ⟨rfl, hb1⟩) | (go_at_call 61; refine (within_any _ _ _ _).mono ?_; rintro e w' ⟨rfl, rfl⟩))
    go_ret2
    exact ⟨rfl, hb1⟩
  cases g3 : inB f 1 20
  · have hv : strandsV cs s f = (0, 2) := by simp [strandsV, ho, g2, g3]
    rw [hv]
    clear hv
    go_enter Try.func23, Try.ntmps23
    go_wp2_with (first | (go_at_call 29; refine (validGoods_eq _ _ _ _ true _ h hn ho).mono ?_; rintro e w1 ⟨rfl, hb1⟩) | (go_at_call 61; refine (within_any _ _ _ _).mono ?_; rintro e w' ⟨rfl, rfl⟩))
    go_ret2
    exact ⟨rfl, hb1⟩
  have i2 := (inB_iff _ _ _).1 g2
  have i3 := (inB_iff _ _ _).1 g3
  have iw := weightAll_bd ho
  have hp := mulb (x := f) (y := weightI cs) (A := 20) (B := 100000) (by omega) (by omega) (by omega) (by omega)
  have hv : strandsV cs s f = (ovr (f * weightI cs) s, 0) := by simp [strandsV, ho, g2, g3]
  rw [hv]
  clear hv
  go_enter Try.func23, Try.ntmps23
  go_wp2_with (first | (go_at_call 29; refine (validGoods_eq _ _ _ _ true _ h hn ho).mono ?_; rintro e w1 ⟨rfl, hb1⟩) | (go_at_call 61; refine (within_any _ _ _ _).mono ?_; rintro e w' ⟨rfl, rfl⟩) | (go_at_call 63; refine (weightOf_any _ _ _ _ _ (h.keep hb1) hn ho).mono ?_; rintro e w2 ⟨rfl, hb2⟩) | (go_at_call 62; refine (over_any _ _ _ (by omega) (by omega) (by omega)).mono ?_; rintro e w' ⟨rfl, rfl⟩))
  go_ret2
  exact ⟨rfl, belowT hb2 hb1⟩
theorem specStrandsFor_any (A : Option Addr) (n c : Nat) (cs : List R2) (s f : Int) (w : World) (h : Recs w A n cs) (hn : n ≤ 1048576) : Calls Try.prog 31 #[.slice A n c, .int .i64 s, .int .i64 f] w fun e w' => e = .returned (.tuple #[.int .i64 (strandsV cs s f).1, .int .i64 (strandsV cs s f).2]) ∧ Below w.heap.size w w' := by
  cases ho : okGs cs
  · have hv : strandsV cs s f = (0, 1) := by simp [strandsV, ho]
    rw [hv]
    clear hv
    go_enter Try.func31, Try.ntmps31
    go_wp2_with (go_at_call 66; refine (l14Ok_eq _ _ _ _ false _ h hn ho).mono ?_; rintro e w' ⟨rfl, rfl⟩)
    go_ret2
    exact ⟨rfl, Below.refl _ _⟩
  cases g2 : inB s 1 100000
  · have hv : strandsV cs s f = (0, 2) := by simp [strandsV, ho, g2]
    rw [hv]
    clear hv
    go_enter Try.func31, Try.ntmps31
    go_wp2_with (first | (go_at_call 66; refine (l14Ok_eq _ _ _ _ true _ h hn ho).mono ?_; rintro e w' ⟨rfl, rfl⟩) | (go_at_call 69; refine (l00In_any _ _ _ _).mono ?_; rintro e w' ⟨rfl, rfl⟩))
    go_ret2
    exact ⟨rfl, Below.refl _ _⟩
  cases g3 : inB f 1 20
  · have hv : strandsV cs s f = (0, 2) := by simp [strandsV, ho, g2, g3]
    rw [hv]
    clear hv
    go_enter Try.func31, Try.ntmps31
    go_wp2_with (first | (go_at_call 66; refine (l14Ok_eq _ _ _ _ true _ h hn ho).mono ?_; rintro e w' ⟨rfl, rfl⟩) | (go_at_call 69; refine (l00In_any _ _ _ _).mono ?_; rintro e w' ⟨rfl, rfl⟩))
    go_ret2
    exact ⟨rfl, Below.refl _ _⟩
  have i2 := (inB_iff _ _ _).1 g2
  have i3 := (inB_iff _ _ _).1 g3
  have iw := weightAll_bd ho
  have hp := mulb (x := f) (y := weightI cs) (A := 20) (B := 100000) (by omega) (by omega) (by omega) (by omega)
  have hq := ovr_bd (a := f * weightI cs) (b := s) (by omega) (by omega)
  rw [ovr_eq (by omega), Int.mul_comm f] at hq
  rw [Int.mul_comm f] at hp
  have hv : strandsV cs s f = ((weightI cs * f + s - 1) / s, 0) := by
    have : strandsV cs s f = (ovr (f * weightI cs) s, 0) := by simp [strandsV, ho, g2, g3]
    rw [this, ovr_eq (by omega), Int.mul_comm f]
  rw [hv]
  clear hv
  go_enter Try.func31, Try.ntmps31
  go_wp2_with (first | (go_at_call 66; refine (l14Ok_eq _ _ _ _ true _ h hn ho).mono ?_; rintro e w' ⟨rfl, rfl⟩) | (go_at_call 69; refine (l00In_any _ _ _ _).mono ?_; rintro e w' ⟨rfl, rfl⟩) | (go_at_call 70; refine (l14Weight_any _ _ _ _ _ h hn ho).mono ?_; rintro e w' ⟨rfl, rfl⟩))
  go_ret2
  exact ⟨rfl, Below.refl _ _⟩
theorem law_FnExactStrandsFor (w : World) (A : Option Addr) (n c : Nat) (cs : List R2) (h0 : IsRecs2 w A n cs) (s : Int) (_ : (Lit.int .i64 s).wf = true) (f : Int) (_ : (Lit.int .i64 f).wf = true) : Calls Try.prog 5 #[.slice A n c, .int .i64 s, .int .i64 f] w fun e w' => e = .returned (.bool true) ∧ Below w.heap.size w w' := by
  have hm := h0.1
  unfold maxLen at hm
  have h := h0.2.1
  by_cases hbig : 1048576 < n
  · have h' : (1048576 : Int) < (n : Int) := by omega
    go_enter Try.func5, Try.ntmps5
    go_wp2_with (go_at_call 26; refine (szGoodS_big _ _ _ _ _ (by omega) (by omega) (by omega) (by omega)).mono ?_; rintro e w' ⟨rfl, rfl⟩)
    go_ret
    exact ⟨rfl, Below.refl _ _⟩
  have hn : n ≤ 1048576 := by omega
  have h' : ¬ (1048576 : Int) < (n : Int) := by omega
  have e1 : decide (cs = cs) = true := by simp
  go_enter Try.func5, Try.ntmps5
  go_wp2_with (go_at_call 26; refine (szGoodS_small _ _ _ _ _ (by omega) (by omega)).mono ?_; rintro e w' ⟨rfl, rfl⟩)
  refine (toGoodS_any _ _ _ _ _ h hn).mono ?_
  rintro e w1 ⟨rfl, ho1, hb1⟩
  go_wp2_with fail
  refine (specStrandsFor_any _ _ _ _ _ _ _ ho1.recs hn).mono ?_
  rintro e w2 ⟨rfl, hb2⟩
  have hB2 := belowT hb2 hb1
  go_wp2_with fail
  refine (toGoodS_any _ _ _ _ _ (h.keep hB2) hn).mono ?_
  rintro e w3 ⟨rfl, ho3, hb3⟩
  have hB3 := belowT hb3 hB2
  go_wp2_with fail
  refine (implStrandsFor_any _ _ _ _ _ _ _ ho3.recs hn).mono ?_
  rintro e w5 ⟨rfl, hb5⟩
  have hB5 := belowT hb5 hB3
  go_wp2_with fail
  refine (toGoodS_any _ _ _ _ _ (h.keep hB5) hn).mono ?_
  rintro e w7 ⟨rfl, ho7, hb7⟩
  have hB7 := belowT hb7 hB5
  go_wp2_with fail
  refine (eqGoodS_any _ _ _ _ _ _ _ _ _ ((ho3.recs.keep hb5).keep hb7) ho7.recs hn hn).mono ?_
  rintro e w' ⟨rfl, hb9⟩
  go_wp2
  go_ret
  exact ⟨rfl, belowT hb9 hB7⟩

def sgn (m : Int) : Int := if m < 0 then -1 else if 0 < m then 1 else 0
theorem l14Sign_any (m : Int) (w : World) : Calls Try.prog 72 #[.int .i64 m] w fun e w' => e = .returned (.int .i64 (sgn m)) ∧ w = w' := by
  by_cases h1 : m < 0
  · have hv : sgn m = -1 := by simp [sgn, h1]
    rw [hv]
    clear hv
    go_enter Try.func72, Try.ntmps72
    go_wp2
    go_ret
    exact ⟨rfl, rfl⟩
  by_cases h2 : 0 < m
  · have hv : sgn m = 1 := by simp [sgn, h1, h2]
    rw [hv]
    clear hv
    go_enter Try.func72, Try.ntmps72
    go_wp2
    go_ret
    exact ⟨rfl, rfl⟩
  · have hv : sgn m = 0 := by simp [sgn, h1, h2]
    rw [hv]
    clear hv
    go_enter Try.func72, Try.ntmps72
    go_wp2
    go_ret
    exact ⟨rfl, rfl⟩
def tiltV (cs : List R2) (a : Int) : Int × Int := if okGs cs then (if inB a 0 1000 then (sgn (momentI a cs), 0) else (0, 2)) else (0, 1)
theorem implTiltAt_any (A : Option Addr) (n c : Nat) (cs : List R2) (a : Int) (w : World) (h : Recs w A n cs) (hn : n ≤ 1048576) : Calls Try.prog 33 #[.slice A n c, .int .i64 a] w fun e w' => e = .returned (.tuple #[.int .i64 (tiltV cs a).1, .int .i64 (tiltV cs a).2]) ∧ Below w.heap.size w w' := by
  cases ho : okGs cs
  · have hv : tiltV cs a = (0, 1) := by simp [tiltV, ho]
    rw [hv]
    clear hv
    go_enter Try.func33, Try.ntmps33
    go_wp2_with (go_at_call 29; refine (validGoods_eq _ _ _ _ false _ h hn ho).mono ?_; rintro e w1 ⟨rfl, hb1⟩)
    go_ret2
    exact ⟨rfl, hb1⟩
  cases g2 : inB a 0 1000
  · have hv : tiltV cs a = (0, 2) := by simp [tiltV, ho, g2]
    rw [hv]
    clear hv
    go_enter Try.func33, Try.ntmps33
    go_wp2_with (first | (go_at_call 29; refine (validGoods_eq _ _ _ _ true _ h hn ho).mono ?_; rintro e w1 ⟨rfl, hb1⟩) | (go_at_call 53; refine (isPlaceG_any _ _).mono ?_; rintro e w' ⟨rfl, rfl⟩))
    go_ret2
    exact ⟨rfl, hb1⟩
  have ia := (inB_iff _ _ _).1 g2
  have hmb := momentAll_bd ho ia
  have hv : tiltV cs a = (sgn (momentI a cs), 0) := by simp [tiltV, ho, g2]
  rw [hv]
  clear hv
  rcases Int.lt_trichotomy (momentI a cs) 0 with h1 | h1 | h1
  · have hv : sgn (momentI a cs) = -1 := by simp [sgn, h1]
    rw [hv]
    clear hv
    have t1 : momentI a cs ≤ -1 := by omega
    clear h1
    go_enter Try.func33, Try.ntmps33
    go_wp2_with (first | (go_at_call 29; refine (validGoods_eq _ _ _ _ true _ h hn ho).mono ?_; rintro e w1 ⟨rfl, hb1⟩) | (go_at_call 53; refine (isPlaceG_any _ _).mono ?_; rintro e w' ⟨rfl, rfl⟩) | (go_at_call 60; refine (momentOf_any _ _ _ _ _ _ (h.keep hb1) hn ho ia).mono ?_; rintro e w2 ⟨rfl, hb2⟩))
    go_ret2
    exact ⟨rfl, belowT hb2 hb1⟩
  · have hv : sgn (momentI a cs) = 0 := by simp [sgn, h1]
    rw [hv]
    clear hv
    have momE : ∀ w : World, Recs w A n cs → Calls Try.prog 60 #[.slice A n c, .int .i64 a] w fun e w' => e = .returned (.int .i64 0) ∧ Below w.heap.size w w' := fun w h => by rw [← h1]; exact momentOf_any _ _ _ _ _ _ h hn ho ia
    have HE := Lib.hid momE
    clear momE h1 hmb
    go_enter Try.func33, Try.ntmps33
    go_wp2_with (first | (go_at_call 29; refine (validGoods_eq _ _ _ _ true _ h hn ho).mono ?_; rintro e w1 ⟨rfl, hb1⟩) | (go_at_call 53; refine (isPlaceG_any _ _).mono ?_; rintro e w' ⟨rfl, rfl⟩) | (go_at_call 60; refine (HE.out _ (h.keep hb1)).mono ?_; rintro e w2 ⟨rfl, hb2⟩))
    go_ret2
    exact ⟨rfl, belowT hb2 hb1⟩
  · have hv : sgn (momentI a cs) = 1 := by unfold sgn; rw [if_neg (by omega), if_pos h1]
    rw [hv]
    clear hv
    have t1 : 1 ≤ momentI a cs := by omega
    clear h1
    go_enter Try.func33, Try.ntmps33
    go_wp2_with (first | (go_at_call 29; refine (validGoods_eq _ _ _ _ true _ h hn ho).mono ?_; rintro e w1 ⟨rfl, hb1⟩) | (go_at_call 53; refine (isPlaceG_any _ _).mono ?_; rintro e w' ⟨rfl, rfl⟩) | (go_at_call 60; refine (momentOf_any _ _ _ _ _ _ (h.keep hb1) hn ho ia).mono ?_; rintro e w2 ⟨rfl, hb2⟩))
    go_ret2
    exact ⟨rfl, belowT hb2 hb1⟩
theorem specTiltAt_any (A : Option Addr) (n c : Nat) (cs : List R2) (a : Int) (w : World) (h : Recs w A n cs) (hn : n ≤ 1048576) : Calls Try.prog 32 #[.slice A n c, .int .i64 a] w fun e w' => e = .returned (.tuple #[.int .i64 (tiltV cs a).1, .int .i64 (tiltV cs a).2]) ∧ Below w.heap.size w w' := by
  cases ho : okGs cs
  · have hv : tiltV cs a = (0, 1) := by simp [tiltV, ho]
    rw [hv]
    clear hv
    go_enter Try.func32, Try.ntmps32
    go_wp2_with (go_at_call 66; refine (l14Ok_eq _ _ _ _ false _ h hn ho).mono ?_; rintro e w' ⟨rfl, rfl⟩)
    go_ret2
    exact ⟨rfl, Below.refl _ _⟩
  cases g2 : inB a 0 1000
  · have hv : tiltV cs a = (0, 2) := by simp [tiltV, ho, g2]
    rw [hv]
    clear hv
    go_enter Try.func32, Try.ntmps32
    go_wp2_with (first | (go_at_call 66; refine (l14Ok_eq _ _ _ _ true _ h hn ho).mono ?_; rintro e w' ⟨rfl, rfl⟩) | (go_at_call 71; refine (l14Place_any _ _).mono ?_; rintro e w' ⟨rfl, rfl⟩))
    go_ret2
    exact ⟨rfl, Below.refl _ _⟩
  have ia := (inB_iff _ _ _).1 g2
  have hv : tiltV cs a = (sgn (momentI a cs), 0) := by simp [tiltV, ho, g2]
  rw [hv]
  clear hv
  go_enter Try.func32, Try.ntmps32
  go_wp2_with (first | (go_at_call 66; refine (l14Ok_eq _ _ _ _ true _ h hn ho).mono ?_; rintro e w' ⟨rfl, rfl⟩) | (go_at_call 71; refine (l14Place_any _ _).mono ?_; rintro e w' ⟨rfl, rfl⟩) | (go_at_call 73; refine (l14Moment_any _ _ _ _ _ _ h hn ho ia).mono ?_; rintro e w' ⟨rfl, q1, rfl⟩) | (go_at_call 72; refine (l14Sign_any _ _).mono ?_; rintro e w' ⟨rfl, rfl⟩))
  go_ret2
  exact ⟨rfl, by (repeat' (first | (with_reducible exact Below.refl _ _) | (with_reducible assumption) | (with_reducible refine Below.drew ?_) | (with_reducible refine below_drewN ?_ _) | (with_reducible refine Below.setCell ?_ ?_ _) | (with_reducible refine Below.alloc ?_ ?_ _) | go_size))⟩
theorem law_FnExactTiltAt (w : World) (A : Option Addr) (n c : Nat) (cs : List R2) (h0 : IsRecs2 w A n cs) (a : Int) (_ : (Lit.int .i64 a).wf = true) : Calls Try.prog 6 #[.slice A n c, .int .i64 a] w fun e w' => e = .returned (.bool true) ∧ Below w.heap.size w w' := by
  have hm := h0.1
  unfold maxLen at hm
  have h := h0.2.1
  by_cases hbig : 1048576 < n
  · have h' : (1048576 : Int) < (n : Int) := by omega
    go_enter Try.func6, Try.ntmps6
    go_wp2_with (go_at_call 26; refine (szGoodS_big _ _ _ _ _ (by omega) (by omega) (by omega) (by omega)).mono ?_; rintro e w' ⟨rfl, rfl⟩)
    go_ret
    exact ⟨rfl, Below.refl _ _⟩
  have hn : n ≤ 1048576 := by omega
  have h' : ¬ (1048576 : Int) < (n : Int) := by omega
  have e1 : decide (cs = cs) = true := by simp
  go_enter Try.func6, Try.ntmps6
  go_wp2_with (go_at_call 26; refine (szGoodS_small _ _ _ _ _ (by omega) (by omega)).mono ?_; rintro e w' ⟨rfl, rfl⟩)
  refine (toGoodS_any _ _ _ _ _ h hn).mono ?_
  rintro e w1 ⟨rfl, ho1, hb1⟩
  go_wp2_with fail
  refine (specTiltAt_any _ _ _ _ _ _ ho1.recs hn).mono ?_
  rintro e w2 ⟨rfl, hb2⟩
  have hB2 := belowT hb2 hb1
  go_wp2_with fail
  refine (toGoodS_any _ _ _ _ _ (h.keep hB2) hn).mono ?_
  rintro e w3 ⟨rfl, ho3, hb3⟩
  have hB3 := belowT hb3 hB2
  go_wp2_with fail
  refine (implTiltAt_any _ _ _ _ _ _ ho3.recs hn).mono ?_
  rintro e w5 ⟨rfl, hb5⟩
  have hB5 := belowT hb5 hB3
  go_wp2_with fail
  refine (toGoodS_any _ _ _ _ _ (h.keep hB5) hn).mono ?_
  rintro e w7 ⟨rfl, ho7, hb7⟩
  have hB7 := belowT hb7 hB5
  go_wp2_with fail
  refine (eqGoodS_any _ _ _ _ _ _ _ _ _ ((ho3.recs.keep hb5).keep hb7) ho7.recs hn hn).mono ?_
  rintro e w' ⟨rfl, hb9⟩
  go_wp2
  go_ret
  exact ⟨rfl, belowT hb9 hB7⟩
end Go.Proofs.Ytkkipkmjhakknaa
