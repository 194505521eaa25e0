/- CounterWeight: contracts and law. -/
import Derived.Test.YtkkipkmjhakknaaGood2
import Derived.Test.YtkkipkmjhakknaaFrac
namespace Go.Proofs.Ytkkipkmjhakknaa
open Go.RowKit
set_option linter.unusedVariables false
set_option linter.unusedSimpArgs false

theorem distance_any (a b : Int) (w : World) (a0 : -1000000000000 ≤ a) (a1 : a ≤ 1000000000000) (b0 : -1000000000000 ≤ b) (b1 : b ≤ 1000000000000) : Calls Try.prog 55 #[.int .i64 a, .int .i64 b] w fun e w' => e = .returned (.int .i64 ((a - b).natAbs : Nat)) ∧ w = w' := by
  by_cases h : b ≤ a
  · have hv : (((a - b).natAbs : Nat) : Int) = a - b := by omega
    rw [hv]
    clear hv
    go_enter Try.func55, Try.ntmps55
    go_wp2
    go_ret
    exact ⟨ret_int (by first | rfl | omega), rfl⟩
  · have hv : (((a - b).natAbs : Nat) : Int) = b - a := by omega
    rw [hv]
    clear hv
    go_enter Try.func55, Try.ntmps55
    go_wp2
    go_ret
    exact ⟨ret_int (by first | rfl | omega), rfl⟩
theorem l14Sign_eq (m v : Int) (w : World) (h : sgn m = v) : Calls Try.prog 72 #[.int .i64 m] w fun e w' => e = .returned (.int .i64 v) ∧ w = w' := by
  subst h; exact l14Sign_any m w
theorem momentOf_eq (A : Option Addr) (n c : Nat) (cs : List R2) (a v : Int) (w : World) (h : Recs w A n cs) (hn : n ≤ 1048576) (ho : okGs cs = true) (ha : 0 ≤ a ∧ a ≤ 1000) (hv : momentI a cs = v) : Calls Try.prog 60 #[.slice A n c, .int .i64 a] w fun e w' => e = .returned (.int .i64 v) ∧ Below w.heap.size w w' := by
  subst hv; exact momentOf_any _ _ _ _ _ _ h hn ho ha
theorem l14Moment_eq (A : Option Addr) (n c : Nat) (cs : List R2) (a v : Int) (w : World) (h : Recs w A n cs) (hn : n ≤ 1048576) (ho : okGs cs = true) (ha : 0 ≤ a ∧ a ≤ 1000) (hv : momentI a cs = v) : Calls Try.prog 73 #[.slice A n c, .int .i64 a] w fun e w' => e = .returned (.int .i64 v) ∧ ∃ q, w' = w.drewN q := by
  subst hv; exact l14Moment_any _ _ _ _ _ _ h hn ho ha

def ctr (m a p : Int) : Int × Int := if m = 0 then (0, 0) else if p = a then (0, 6) else if (0 < m ↔ a < p) then (0, 9) else (ovr (m.natAbs : Nat) ((p - a).natAbs : Nat), 0)
def counterV (cs : List R2) (a p : Int) : Int × Int := if okGs cs then (if inB a 0 1000 && inB p 0 1000 then ctr (momentI a cs) a p else (0, 2)) else (0, 1)


theorem implCounterWeight_any (A : Option Addr) (n c : Nat) (cs : List R2) (a p : Int) (w : World) (h : Recs w A n cs) (hn : n ≤ 1048576) : Calls Try.prog 38 #[.slice A n c, .int .i64 a, .int .i64 p] w fun e w' => e = .returned (.tuple #[.int .i64 (counterV cs a p).1, .int .i64 (counterV cs a p).2]) ∧ Below w.heap.size w w' := by
  cases ho : okGs cs
  · have hv : counterV cs a p = (0, 1) := by simp [counterV, ho]
    rw [hv]
    clear hv
    go_enter Try.func38, Try.ntmps38
    go_wp2_with (go_at_call 29; refine (validGoods_eq _ _ _ _ false _ h hn ho).mono ?_; rintro e w1 ⟨rfl, hb1⟩)
    go_ret2
    exact ⟨rfl, by first | exact hb1 | exact Below.refl _ _⟩
  cases g2 : inB a 0 1000
  · have hv : counterV cs a p = (0, 2) := by simp [counterV, ho, g2]
    rw [hv]
    clear hv
    go_enter Try.func38, Try.ntmps38
    go_wp2_with (first | (go_at_call 29; refine (validGoods_eq _ _ _ _ true _ h hn ho).mono ?_; rintro e w1 ⟨rfl, hb1⟩) | (go_at_call 53; refine (isPlaceG_any _ _).mono ?_; rintro e w' ⟨rfl, rfl⟩))
    go_ret2
    exact ⟨rfl, by first | exact hb1 | exact Below.refl _ _⟩
  cases g3 : inB p 0 1000
  · have hv : counterV cs a p = (0, 2) := by simp [counterV, ho, g2, g3]
    rw [hv]
    clear hv
    go_enter Try.func38, Try.ntmps38
    go_wp2_with (first | (go_at_call 29; refine (validGoods_eq _ _ _ _ true _ h hn ho).mono ?_; rintro e w1 ⟨rfl, hb1⟩) | (go_at_call 53; refine (isPlaceG_any _ _).mono ?_; rintro e w' ⟨rfl, rfl⟩))
    go_ret2
    exact ⟨rfl, by first | exact hb1 | exact Below.refl _ _⟩
  have ia := (inB_iff _ _ _).1 g2
  have ip := (inB_iff _ _ _).1 g3
  have hmb := momentAll_bd ho ia
  have hv : counterV cs a p = ctr (momentI a cs) a p := by simp [counterV, ho, g2, g3]
  rw [hv]
  clear hv
  generalize hm : momentI a cs = m at *
  have Hm := Lib.hid hm
  clear hm
  rcases Int.lt_trichotomy m 0 with h1 | h1 | h1
  · by_cases h2 : p = a
    · have hv : ctr m a p = (0, 6) := by unfold ctr; rw [if_neg (by omega), if_pos h2]
      rw [hv]
      clear hv
      have t1 : (m == 0) = false := by rw [beq_eq_false_iff_ne]; omega
      have t2 : (p == a) = true := by simpa using h2
      clear h1 h2
      go_enter Try.func38, Try.ntmps38
      go_wp2_with (first | (go_at_call 29; refine (validGoods_eq _ _ _ _ true _ h hn ho).mono ?_; rintro e w1 ⟨rfl, hb1⟩) | (go_at_call 53; refine (isPlaceG_any _ _).mono ?_; rintro e w' ⟨rfl, rfl⟩) | (go_at_call 60; refine (momentOf_eq _ _ _ _ _ _ _ (h.keep hb1) hn ho ia Hm.out).mono ?_; rintro e w2 ⟨rfl, hb2⟩))
      go_ret2
      exact ⟨rfl, belowT hb2 hb1⟩
    by_cases h3 : a < p
    · have hv : ctr m a p = (ovr (m.natAbs : Nat) ((p - a).natAbs : Nat), 0) := by unfold ctr; rw [if_neg (by omega), if_neg h2, if_neg (by omega)]
      rw [hv]
      clear hv
      have t1 : (m == 0) = false := by rw [beq_eq_false_iff_ne]; omega
      have t2 : (p == a) = false := by rw [beq_eq_false_iff_ne]; omega
      have t4 : decide (0 < m) = false := by simp; omega
      have t5 : decide (a < p) = true := by simp; omega
      clear h2
      go_enter Try.func38, Try.ntmps38
      go_wp2_with (first | (go_at_call 29; refine (validGoods_eq _ _ _ _ true _ h hn ho).mono ?_; rintro e w1 ⟨rfl, hb1⟩) | (go_at_call 53; refine (isPlaceG_any _ _).mono ?_; rintro e w' ⟨rfl, rfl⟩) | (go_at_call 60; refine (momentOf_eq _ _ _ _ _ _ _ (h.keep hb1) hn ho ia Hm.out).mono ?_; rintro e w2 ⟨rfl, hb2⟩) | (first | (go_at_call 55; refine (distance_any _ _ _ (by omega) (by omega) (by omega) (by omega)).mono ?_; rintro e w' ⟨rfl, rfl⟩) | (go_at_call 62; refine (over_any _ _ _ (by omega) (by omega) (by omega)).mono ?_; rintro e w' ⟨rfl, rfl⟩)))
      go_ret2
      exact ⟨rfl, belowT hb2 hb1⟩
    · have hv : ctr m a p = (0, 9) := by unfold ctr; rw [if_neg (by omega), if_neg h2, if_pos (by omega)]
      rw [hv]
      clear hv
      have t1 : (m == 0) = false := by rw [beq_eq_false_iff_ne]; omega
      have t2 : (p == a) = false := by rw [beq_eq_false_iff_ne]; omega
      have t4 : decide (0 < m) = false := by simp; omega
      have t5 : decide (a < p) = false := by simp; omega
      have t3 : p + 1 ≤ a := by omega
      clear h2
      go_enter Try.func38, Try.ntmps38
      go_wp2_with (first | (go_at_call 29; refine (validGoods_eq _ _ _ _ true _ h hn ho).mono ?_; rintro e w1 ⟨rfl, hb1⟩) | (go_at_call 53; refine (isPlaceG_any _ _).mono ?_; rintro e w' ⟨rfl, rfl⟩) | (go_at_call 60; refine (momentOf_eq _ _ _ _ _ _ _ (h.keep hb1) hn ho ia Hm.out).mono ?_; rintro e w2 ⟨rfl, hb2⟩))
      go_ret2
      exact ⟨rfl, belowT hb2 hb1⟩
  · subst h1
    have hv : ctr 0 a p = (0, 0) := by simp [ctr]
    rw [hv]
    clear hv
    go_enter Try.func38, Try.ntmps38
    go_wp2_with (first | (go_at_call 29; refine (validGoods_eq _ _ _ _ true _ h hn ho).mono ?_; rintro e w1 ⟨rfl, hb1⟩) | (go_at_call 53; refine (isPlaceG_any _ _).mono ?_; rintro e w' ⟨rfl, rfl⟩) | (go_at_call 60; refine (momentOf_eq _ _ _ _ _ _ _ (h.keep hb1) hn ho ia Hm.out).mono ?_; rintro e w2 ⟨rfl, hb2⟩))
    go_ret2
    exact ⟨rfl, belowT hb2 hb1⟩
  · by_cases h2 : p = a
    · have hv : ctr m a p = (0, 6) := by unfold ctr; rw [if_neg (by omega), if_pos h2]
      rw [hv]
      clear hv
      have t1 : (m == 0) = false := by rw [beq_eq_false_iff_ne]; omega
      have t2 : (p == a) = true := by simpa using h2
      clear h1 h2
      go_enter Try.func38, Try.ntmps38
      go_wp2_with (first | (go_at_call 29; refine (validGoods_eq _ _ _ _ true _ h hn ho).mono ?_; rintro e w1 ⟨rfl, hb1⟩) | (go_at_call 53; refine (isPlaceG_any _ _).mono ?_; rintro e w' ⟨rfl, rfl⟩) | (go_at_call 60; refine (momentOf_eq _ _ _ _ _ _ _ (h.keep hb1) hn ho ia Hm.out).mono ?_; rintro e w2 ⟨rfl, hb2⟩))
      go_ret2
      exact ⟨rfl, belowT hb2 hb1⟩
    by_cases h3 : a < p
    · have hv : ctr m a p = (0, 9) := by unfold ctr; rw [if_neg (by omega), if_neg h2, if_pos (by omega)]
      rw [hv]
      clear hv
      have t1 : (m == 0) = false := by rw [beq_eq_false_iff_ne]; omega
      have t2 : (p == a) = false := by rw [beq_eq_false_iff_ne]; omega
      have t4 : decide (0 < m) = true := by simp; omega
      have t5 : decide (a < p) = true := by simp; omega
      clear h2
      go_enter Try.func38, Try.ntmps38
      go_wp2_with (first | (go_at_call 29; refine (validGoods_eq _ _ _ _ true _ h hn ho).mono ?_; rintro e w1 ⟨rfl, hb1⟩) | (go_at_call 53; refine (isPlaceG_any _ _).mono ?_; rintro e w' ⟨rfl, rfl⟩) | (go_at_call 60; refine (momentOf_eq _ _ _ _ _ _ _ (h.keep hb1) hn ho ia Hm.out).mono ?_; rintro e w2 ⟨rfl, hb2⟩))
      go_ret2
      exact ⟨rfl, belowT hb2 hb1⟩
    · have hv : ctr m a p = (ovr (m.natAbs : Nat) ((p - a).natAbs : Nat), 0) := by unfold ctr; rw [if_neg (by omega), if_neg h2, if_neg (by omega)]
      rw [hv]
      clear hv
      have t1 : (m == 0) = false := by rw [beq_eq_false_iff_ne]; omega
      have t2 : (p == a) = false := by rw [beq_eq_false_iff_ne]; omega
      have t4 : decide (0 < m) = true := by simp; omega
      have t5 : decide (a < p) = false := by simp; omega
      have t3 : p + 1 ≤ a := by omega
      clear h2
      go_enter Try.func38, Try.ntmps38
      go_wp2_with (first | (go_at_call 29; refine (validGoods_eq _ _ _ _ true _ h hn ho).mono ?_; rintro e w1 ⟨rfl, hb1⟩) | (go_at_call 53; refine (isPlaceG_any _ _).mono ?_; rintro e w' ⟨rfl, rfl⟩) | (go_at_call 60; refine (momentOf_eq _ _ _ _ _ _ _ (h.keep hb1) hn ho ia Hm.out).mono ?_; rintro e w2 ⟨rfl, hb2⟩) | (first | (go_at_call 55; refine (distance_any _ _ _ (by omega) (by omega) (by omega) (by omega)).mono ?_; rintro e w' ⟨rfl, rfl⟩) | (go_at_call 62; refine (over_any _ _ _ (by omega) (by omega) (by omega)).mono ?_; rintro e w' ⟨rfl, rfl⟩)))
      go_ret2
      exact ⟨rfl, belowT hb2 hb1⟩

theorem specCounterWeight_any (A : Option Addr) (n c : Nat) (cs : List R2) (a p : Int) (w : World) (h : Recs w A n cs) (hn : n ≤ 1048576) : Calls Try.prog 37 #[.slice A n c, .int .i64 a, .int .i64 p] w fun e w' => e = .returned (.tuple #[.int .i64 (counterV cs a p).1, .int .i64 (counterV cs a p).2]) ∧ Below w.heap.size w w' := by
  cases ho : okGs cs
  · have hv : counterV cs a p = (0, 1) := by simp [counterV, ho]
    rw [hv]
    clear hv
    go_enter Try.func37, Try.ntmps37
    go_wp2_with (go_at_call 66; refine (l14Ok_eq _ _ _ _ false _ h hn ho).mono ?_; rintro e w' ⟨rfl, rfl⟩)
    go_ret2
    exact ⟨rfl, by first | exact hb1 | exact Below.refl _ _⟩
  cases g2 : inB a 0 1000
  · have hv : counterV cs a p = (0, 2) := by simp [counterV, ho, g2]
    rw [hv]
    clear hv
    go_enter Try.func37, Try.ntmps37
    go_wp2_with (first | (go_at_call 66; refine (l14Ok_eq _ _ _ _ true _ h hn ho).mono ?_; rintro e w' ⟨rfl, rfl⟩) | (go_at_call 71; refine (l14Place_any _ _).mono ?_; rintro e w' ⟨rfl, rfl⟩))
    go_ret2
    exact ⟨rfl, by first | exact hb1 | exact Below.refl _ _⟩
  cases g3 : inB p 0 1000
  · have hv : counterV cs a p = (0, 2) := by simp [counterV, ho, g2, g3]
    rw [hv]
    clear hv
    go_enter Try.func37, Try.ntmps37
    go_wp2_with (first | (go_at_call 66; refine (l14Ok_eq _ _ _ _ true _ h hn ho).mono ?_; rintro e w' ⟨rfl, rfl⟩) | (go_at_call 71; refine (l14Place_any _ _).mono ?_; rintro e w' ⟨rfl, rfl⟩))
    go_ret2
    exact ⟨rfl, by first | exact hb1 | exact Below.refl _ _⟩
  have ia := (inB_iff _ _ _).1 g2
  have ip := (inB_iff _ _ _).1 g3
  have hmb := momentAll_bd ho ia
  have hv : counterV cs a p = ctr (momentI a cs) a p := by simp [counterV, ho, g2, g3]
  rw [hv]
  clear hv
  generalize hm : momentI a cs = m at *
  have Hm := Lib.hid hm
  clear hm
  rcases Int.lt_trichotomy m 0 with h1 | h1 | h1
  · have hs : sgn m = -1 := by simp [sgn, h1]
    have Hs := Lib.hid hs
    clear hs
    have t1 : (m == 0) = false := by rw [beq_eq_false_iff_ne]; omega
    by_cases h2 : p = a
    · have hv : ctr m a p = (0, 6) := by unfold ctr; rw [if_neg (by omega), if_pos h2]
      rw [hv]
      clear hv
      have t2 : (p == a) = true := by simpa using h2
      clear h1 h2
      go_enter Try.func37, Try.ntmps37
      go_wp2_with (first | (go_at_call 66; refine (l14Ok_eq _ _ _ _ true _ h hn ho).mono ?_; rintro e w' ⟨rfl, rfl⟩) | (go_at_call 71; refine (l14Place_any _ _).mono ?_; rintro e w' ⟨rfl, rfl⟩) | (go_at_call 73; refine (l14Moment_eq _ _ _ _ _ _ _ h hn ho ia Hm.out).mono ?_; rintro e w' ⟨rfl, q1, rfl⟩))
      go_ret2
      exact ⟨rfl, by (repeat' (first | (with_reducible exact Below.refl _ _) | (with_reducible assumption) | (with_reducible refine Below.drew ?_) | (with_reducible refine below_drewN ?_ _) | (with_reducible refine Below.setCell ?_ ?_ _) | (with_reducible refine Below.alloc ?_ ?_ _) | go_size))⟩
    have t2 : (p == a) = false := by rw [beq_eq_false_iff_ne]; omega
    by_cases h3 : a < p
    · have hq : sgn (p - a) = 1 := by unfold sgn; rw [if_neg (by omega), if_pos (by omega)]
      have Hq := Lib.hid hq
      clear hq
      have hv : ctr m a p = (ovr (m.natAbs : Nat) ((p - a).natAbs : Nat), 0) := by unfold ctr; rw [if_neg (by omega), if_neg h2, if_neg (by omega)]
      have hd1 : (1 : Int) ≤ ((p - a).natAbs : Nat) := by omega
      have hd2 : (((p - a).natAbs : Nat) : Int) ≤ 1000 := by omega
      have hd3 : ((m.natAbs : Nat) : Int) ≤ 100000000 := by omega
      have hov := ovr_bd (a := (m.natAbs : Nat)) (b := ((p - a).natAbs : Nat)) (by omega) (by omega)
      rw [ovr_eq (by omega)] at hov
      rw [hv, ovr_eq (by omega)]
      clear hv h2
      go_enter Try.func37, Try.ntmps37
      go_wp2_with (first | (go_at_call 66; refine (l14Ok_eq _ _ _ _ true _ h hn ho).mono ?_; rintro e w' ⟨rfl, rfl⟩) | (go_at_call 71; refine (l14Place_any _ _).mono ?_; rintro e w' ⟨rfl, rfl⟩) | (go_at_call 73; refine (l14Moment_eq _ _ _ _ _ _ _ h hn ho ia Hm.out).mono ?_; rintro e w' ⟨rfl, q1, rfl⟩) | (go_at_call 72; refine (l14Sign_eq _ _ _ (by first | with_reducible exact Hs.out | with_reducible exact Hq.out)).mono ?_; rintro e w' ⟨rfl, rfl⟩) | (go_at_call 74; refine (l00Size_any _ _ (by omega) (by omega)).mono ?_; rintro e w' ⟨rfl, rfl⟩))
      go_ret2
      exact ⟨rfl, by (repeat' (first | (with_reducible exact Below.refl _ _) | (with_reducible assumption) | (with_reducible refine Below.drew ?_) | (with_reducible refine below_drewN ?_ _) | (with_reducible refine Below.setCell ?_ ?_ _) | (with_reducible refine Below.alloc ?_ ?_ _) | go_size))⟩
    · have hq : sgn (p - a) = -1 := by unfold sgn; rw [if_pos (by omega)]
      have Hq := Lib.hid hq
      clear hq
      have hv : ctr m a p = (0, 9) := by unfold ctr; rw [if_neg (by omega), if_neg h2, if_pos (by omega)]
      rw [hv]
      clear hv h2
      go_enter Try.func37, Try.ntmps37
      go_wp2_with (first | (go_at_call 66; refine (l14Ok_eq _ _ _ _ true _ h hn ho).mono ?_; rintro e w' ⟨rfl, rfl⟩) | (go_at_call 71; refine (l14Place_any _ _).mono ?_; rintro e w' ⟨rfl, rfl⟩) | (go_at_call 73; refine (l14Moment_eq _ _ _ _ _ _ _ h hn ho ia Hm.out).mono ?_; rintro e w' ⟨rfl, q1, rfl⟩) | (go_at_call 72; refine (l14Sign_eq _ _ _ (by first | with_reducible exact Hs.out | with_reducible exact Hq.out)).mono ?_; rintro e w' ⟨rfl, rfl⟩))
      go_ret2
      exact ⟨rfl, by (repeat' (first | (with_reducible exact Below.refl _ _) | (with_reducible assumption) | (with_reducible refine Below.drew ?_) | (with_reducible refine below_drewN ?_ _) | (with_reducible refine Below.setCell ?_ ?_ _) | (with_reducible refine Below.alloc ?_ ?_ _) | go_size))⟩
  · subst h1
    have hv : ctr 0 a p = (0, 0) := by simp [ctr]
    rw [hv]
    clear hv
    go_enter Try.func37, Try.ntmps37
    go_wp2_with (first | (go_at_call 66; refine (l14Ok_eq _ _ _ _ true _ h hn ho).mono ?_; rintro e w' ⟨rfl, rfl⟩) | (go_at_call 71; refine (l14Place_any _ _).mono ?_; rintro e w' ⟨rfl, rfl⟩) | (go_at_call 73; refine (l14Moment_eq _ _ _ _ _ _ _ h hn ho ia Hm.out).mono ?_; rintro e w' ⟨rfl, q1, rfl⟩))
    go_ret2
    exact ⟨rfl, by (repeat' (first | (with_reducible exact Below.refl _ _) | (with_reducible assumption) | (with_reducible refine Below.drew ?_) | (with_reducible refine below_drewN ?_ _) | (with_reducible refine Below.setCell ?_ ?_ _) | (with_reducible refine Below.alloc ?_ ?_ _) | go_size))⟩
  · have hs : sgn m = 1 := by unfold sgn; rw [if_neg (by omega), if_pos h1]
    have Hs := Lib.hid hs
    clear hs
    have t1 : (m == 0) = false := by rw [beq_eq_false_iff_ne]; omega
    by_cases h2 : p = a
    · have hv : ctr m a p = (0, 6) := by unfold ctr; rw [if_neg (by omega), if_pos h2]
      rw [hv]
      clear hv
      have t2 : (p == a) = true := by simpa using h2
      clear h1 h2
      go_enter Try.func37, Try.ntmps37
      go_wp2_with (first | (go_at_call 66; refine (l14Ok_eq _ _ _ _ true _ h hn ho).mono ?_; rintro e w' ⟨rfl, rfl⟩) | (go_at_call 71; refine (l14Place_any _ _).mono ?_; rintro e w' ⟨rfl, rfl⟩) | (go_at_call 73; refine (l14Moment_eq _ _ _ _ _ _ _ h hn ho ia Hm.out).mono ?_; rintro e w' ⟨rfl, q1, rfl⟩))
      go_ret2
      exact ⟨rfl, by (repeat' (first | (with_reducible exact Below.refl _ _) | (with_reducible assumption) | (with_reducible refine Below.drew ?_) | (with_reducible refine below_drewN ?_ _) | (with_reducible refine Below.setCell ?_ ?_ _) | (with_reducible refine Below.alloc ?_ ?_ _) | go_size))⟩
    have t2 : (p == a) = false := by rw [beq_eq_false_iff_ne]; omega
    by_cases h3 : a < p
    · have hq : sgn (p - a) = 1 := by unfold sgn; rw [if_neg (by omega), if_pos (by omega)]
      have Hq := Lib.hid hq
      clear hq
      have hv : ctr m a p = (0, 9) := by unfold ctr; rw [if_neg (by omega), if_neg h2, if_pos (by omega)]
      rw [hv]
      clear hv h2
      go_enter Try.func37, Try.ntmps37
      go_wp2_with (first | (go_at_call 66; refine (l14Ok_eq _ _ _ _ true _ h hn ho).mono ?_; rintro e w' ⟨rfl, rfl⟩) | (go_at_call 71; refine (l14Place_any _ _).mono ?_; rintro e w' ⟨rfl, rfl⟩) | (go_at_call 73; refine (l14Moment_eq _ _ _ _ _ _ _ h hn ho ia Hm.out).mono ?_; rintro e w' ⟨rfl, q1, rfl⟩) | (go_at_call 72; refine (l14Sign_eq _ _ _ (by first | with_reducible exact Hs.out | with_reducible exact Hq.out)).mono ?_; rintro e w' ⟨rfl, rfl⟩))
      go_ret2
      exact ⟨rfl, by (repeat' (first | (with_reducible exact Below.refl _ _) | (with_reducible assumption) | (with_reducible refine Below.drew ?_) | (with_reducible refine below_drewN ?_ _) | (with_reducible refine Below.setCell ?_ ?_ _) | (with_reducible refine Below.alloc ?_ ?_ _) | go_size))⟩
    · have hq : sgn (p - a) = -1 := by unfold sgn; rw [if_pos (by omega)]
      have Hq := Lib.hid hq
      clear hq
      have hv : ctr m a p = (ovr (m.natAbs : Nat) ((p - a).natAbs : Nat), 0) := by unfold ctr; rw [if_neg (by omega), if_neg h2, if_neg (by omega)]
      have hd1 : (1 : Int) ≤ ((p - a).natAbs : Nat) := by omega
      have hd2 : (((p - a).natAbs : Nat) : Int) ≤ 1000 := by omega
      have hd3 : ((m.natAbs : Nat) : Int) ≤ 100000000 := by omega
      have hov := ovr_bd (a := (m.natAbs : Nat)) (b := ((p - a).natAbs : Nat)) (by omega) (by omega)
      rw [ovr_eq (by omega)] at hov
      rw [hv, ovr_eq (by omega)]
      clear hv h2
      go_enter Try.func37, Try.ntmps37
      go_wp2_with (first | (go_at_call 66; refine (l14Ok_eq _ _ _ _ true _ h hn ho).mono ?_; rintro e w' ⟨rfl, rfl⟩) | (go_at_call 71; refine (l14Place_any _ _).mono ?_; rintro e w' ⟨rfl, rfl⟩) | (go_at_call 73; refine (l14Moment_eq _ _ _ _ _ _ _ h hn ho ia Hm.out).mono ?_; rintro e w' ⟨rfl, q1, rfl⟩) | (go_at_call 72; refine (l14Sign_eq _ _ _ (by first | with_reducible exact Hs.out | with_reducible exact Hq.out)).mono ?_; rintro e w' ⟨rfl, rfl⟩) | (go_at_call 74; refine (l00Size_any _ _ (by omega) (by omega)).mono ?_; rintro e w' ⟨rfl, rfl⟩))
      go_ret2
      exact ⟨rfl, by (repeat' (first | (with_reducible exact Below.refl _ _) | (with_reducible assumption) | (with_reducible refine Below.drew ?_) | (with_reducible refine below_drewN ?_ _) | (with_reducible refine Below.setCell ?_ ?_ _) | (with_reducible refine Below.alloc ?_ ?_ _) | go_size))⟩
theorem law_FnExactCounterWeight (w : World) (A : Option Addr) (n c : Nat) (cs : List R2) (h0 : IsRecs2 w A n cs) (a : Int) (_ : (Lit.int .i64 a).wf = true) (p : Int) (_ : (Lit.int .i64 p).wf = true) : Calls Try.prog 8 #[.slice A n c, .int .i64 a, .int .i64 p] w fun e w' => e = .returned (.bool true) ∧ Below w.heap.size w w' := by
  have hm := h0.1
  unfold maxLen at hm
  have h := h0.2.1
  by_cases hbig : 1048576 < n
  · have h' : (1048576 : Int) < (n : Int) := by omega
    go_enter Try.func8, Try.ntmps8
    go_wp2_with (go_at_call 26; refine (szGoodS_big _ _ _ _ _ (by omega) (by omega) (by omega) (by omega)).mono ?_; rintro e w' ⟨rfl, rfl⟩)
    go_ret
    exact ⟨rfl, Below.refl _ _⟩
  have hn : n ≤ 1048576 := by omega
  have h' : ¬ (1048576 : Int) < (n : Int) := by omega
  have e1 : decide (cs = cs) = true := by simp
  go_enter Try.func8, Try.ntmps8
  go_wp2_with (go_at_call 26; refine (szGoodS_small _ _ _ _ _ (by omega) (by omega)).mono ?_; rintro e w' ⟨rfl, rfl⟩)
  refine (toGoodS_any _ _ _ _ _ h hn).mono ?_
  rintro e w1 ⟨rfl, ho1, hb1⟩
  go_wp2_with fail
  refine (specCounterWeight_any _ _ _ _ _ _ _ ho1.recs hn).mono ?_
  rintro e w2 ⟨rfl, hb2⟩
  have hB2 := belowT hb2 hb1
  go_wp2_with fail
  refine (toGoodS_any _ _ _ _ _ (h.keep hB2) hn).mono ?_
  rintro e w3 ⟨rfl, ho3, hb3⟩
  have hB3 := belowT hb3 hB2
  go_wp2_with fail
  refine (implCounterWeight_any _ _ _ _ _ _ _ ho3.recs hn).mono ?_
  rintro e w5 ⟨rfl, hb5⟩
  have hB5 := belowT hb5 hB3
  go_wp2_with fail
  refine (toGoodS_any _ _ _ _ _ (h.keep hB5) hn).mono ?_
  rintro e w7 ⟨rfl, ho7, hb7⟩
  have hB7 := belowT hb7 hB5
  go_wp2_with fail
  refine (eqGoodS_any _ _ _ _ _ _ _ _ _ ((ho3.recs.keep hb5).keep hb7) ho7.recs hn hn).mono ?_
  rintro e w' ⟨rfl, hb9⟩
  go_wp2
  go_ret
  exact ⟨rfl, belowT hb9 hB7⟩
end Go.Proofs.Ytkkipkmjhakknaa
