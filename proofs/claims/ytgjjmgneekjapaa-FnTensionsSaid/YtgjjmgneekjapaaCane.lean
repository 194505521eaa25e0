/- CaneFor. -/
import Derived.Test.YtgjjmgneekjapaaPairs4
namespace Go.Proofs.Ytgjjmgneekjapaa
open Go.RowKit
set_option linter.unusedVariables false
set_option linter.unusedSimpArgs false

def canes (f s a : Int) : Int := 2 * f * a * s + 2 * s * a * f + 2 * a * (min f s) * (min f s - 1)
def caneV (f b s a : Int) : Int × Int := if okSeat f b s then (if inB a 5 50 then (canes f s a, 0) else (0, 2)) else (0, 1)

theorem implCaneFor_any (f b s a : Int) (w : World) : Calls Try.prog 23 #[.agg #[.int .i64 f, .int .i64 b, .int .i64 s], .int .i64 a] w fun e w' => e = .returned (.tuple #[.int .i64 (caneV f b s a).1, .int .i64 (caneV f b s a).2]) ∧ Below w.heap.size w w' := by
  cases ho : okSeat f b s
  · have hv : caneV f b s a = (0, 1) := by simp [caneV, ho]
    rw [hv]
    clear hv
    go_enter Try.func23, Try.ntmps23
    go_wp2_with fail
    refine (validSeat_eq _ _ _ false _ ho).mono ?_
    rintro e w1 ⟨rfl, hb⟩
    obtain ⟨c0, c1, c2, hB⟩ := box_cells hb
    go_wp2
    go_ret2
    exact ⟨rfl, by (repeat' (first | (with_reducible exact Below.refl _ _) | (with_reducible assumption) | (with_reducible refine Below.drew ?_) | (with_reducible refine below_drewN ?_ _) | (with_reducible refine Below.setCell ?_ ?_ _) | (with_reducible refine Below.alloc ?_ ?_ _) | go_size))⟩
  cases hs : inB a 5 50
  · have hv : caneV f b s a = (0, 2) := by simp [caneV, ho, hs]
    rw [hv]
    clear hv
    go_enter Try.func23, Try.ntmps23
    go_wp2_with fail
    refine (validSeat_eq _ _ _ true _ ho).mono ?_
    rintro e w1 ⟨rfl, hb⟩
    obtain ⟨c0, c1, c2, hB⟩ := box_cells hb
    go_wp2_with (go_at_call 43; refine (within_any _ _ _ _).mono ?_; rintro e w' ⟨rfl, rfl⟩)
    go_ret2
    exact ⟨rfl, by (repeat' (first | (with_reducible exact Below.refl _ _) | (with_reducible assumption) | (with_reducible refine Below.drew ?_) | (with_reducible refine below_drewN ?_ _) | (with_reducible refine Below.setCell ?_ ?_ _) | (with_reducible refine Below.alloc ?_ ?_ _) | go_size))⟩
  have hv : caneV f b s a = (canes f s a, 0) := by simp [caneV, ho, hs]
  rw [hv]
  clear hv
  obtain ⟨⟨f0, f1⟩, ⟨b0, b1⟩, ⟨s0, s1⟩, hmod⟩ := (okSeat_iff _ _ _).1 ho
  obtain ⟨a0, a1⟩ := (inB_iff _ _ _).1 hs
  clear hmod
  have m1 := mulb (x := 2 * f) (y := a) (A := 80) (B := 50) (by omega) (by omega) (by omega) (by omega)
  have m2 := mulb (x := 2 * f * a) (y := s) (A := 80 * 50) (B := 40) m1.1 m1.2 (by omega) (by omega)
  have m3 := mulb (x := 2 * s) (y := a) (A := 80) (B := 50) (by omega) (by omega) (by omega) (by omega)
  have m4 := mulb (x := 2 * s * a) (y := f) (A := 80 * 50) (B := 40) m3.1 m3.2 (by omega) (by omega)
  by_cases hfs : f ≤ s
  · have hmin : min f s = f := by omega
    have m5 := mulb (x := 2 * a) (y := f) (A := 100) (B := 40) (by omega) (by omega) (by omega) (by omega)
    have m6 := mulb (x := 2 * a * f) (y := f - 1) (A := 100 * 40) (B := 40) m5.1 m5.2 (by omega) (by omega)
    have hsf : ¬ s < f := by omega
    unfold canes
    rw [hmin]
    clear hmin
    go_enter Try.func23, Try.ntmps23
    go_wp2_with fail
    refine (validSeat_eq _ _ _ true _ ho).mono ?_
    rintro e w1 ⟨rfl, hb⟩
    obtain ⟨c0, c1, c2, hB⟩ := box_cells hb
    go_wp2_with (go_at_call 43; refine (within_any _ _ _ _).mono ?_; rintro e w' ⟨rfl, rfl⟩)
    go_ret2
    exact ⟨rfl, by (repeat' (first | (with_reducible exact Below.refl _ _) | (with_reducible assumption) | (with_reducible refine Below.drew ?_) | (with_reducible refine below_drewN ?_ _) | (with_reducible refine Below.setCell ?_ ?_ _) | (with_reducible refine Below.alloc ?_ ?_ _) | go_size))⟩
  · have hmin : min f s = s := by omega
    have m5 := mulb (x := 2 * a) (y := s) (A := 100) (B := 40) (by omega) (by omega) (by omega) (by omega)
    have m6 := mulb (x := 2 * a * s) (y := s - 1) (A := 100 * 40) (B := 40) m5.1 m5.2 (by omega) (by omega)
    have hsf : s < f := by omega
    unfold canes
    rw [hmin]
    clear hmin
    go_enter Try.func23, Try.ntmps23
    go_wp2_with fail
    refine (validSeat_eq _ _ _ true _ ho).mono ?_
    rintro e w1 ⟨rfl, hb⟩
    obtain ⟨c0, c1, c2, hB⟩ := box_cells hb
    go_wp2_with (go_at_call 43; refine (within_any _ _ _ _).mono ?_; rintro e w' ⟨rfl, rfl⟩)
    go_ret2
    exact ⟨rfl, by (repeat' (first | (with_reducible exact Below.refl _ _) | (with_reducible assumption) | (with_reducible refine Below.drew ?_) | (with_reducible refine below_drewN ?_ _) | (with_reducible refine Below.setCell ?_ ?_ _) | (with_reducible refine Below.alloc ?_ ?_ _) | go_size))⟩
end Go.Proofs.Ytgjjmgneekjapaa
