/- StrandsOf. -/
import Derived.Test.YtgjjmgneekjapaaDoorPairs3
namespace Go.Proofs.YtgjjmgneekjapaaDoor
open Go.RowKit
set_option linter.unusedVariables false
set_option linter.unusedSimpArgs false

def strandsV (f b s st : Int) : Int × Int := ((pairsV f b s st).length, codeP f b s st)
theorem implStrandsOf_any (f b s st : Int) (w : World) : Calls Tryd.prog 12 #[.agg #[.int .i64 f, .int .i64 b, .int .i64 s], .int .i64 st] w fun e w' => e = .returned (.tuple #[.int .i64 (strandsV f b s st).1, .int .i64 (strandsV f b s st).2]) ∧ Below w.heap.size w w' := by
  go_enter Tryd.func12, Tryd.ntmps12
  go_wp2_with fail
  refine (implPairsOf_any _ _ _ _ _).mono ?_
  rintro e w1 ⟨A, n, c, rfl, hP, hb⟩
  obtain ⟨c0, c1, c2, hB⟩ := box_cells hb
  have hl := OwnP.len hP
  have hv : strandsV f b s st = ((n : Int), codeP f b s st) := by simp [strandsV, hl]
  have Hv := Lib.hid hv
  clear hv hl
  go_wp2
  go_ret2
  rw [Hv.out]
  exact ⟨rfl, hB⟩
theorem specStrandsOf_any (f b s st : Int) (w : World) : Calls Tryd.prog 13 #[.agg #[.int .i64 f, .int .i64 b, .int .i64 s], .int .i64 st] w fun e w' => e = .returned (.tuple #[.int .i64 (strandsV f b s st).1, .int .i64 (strandsV f b s st).2]) ∧ Below w.heap.size w w' := by
  by_cases hv : codeP f b s st = 0
  case neg =>
    have hv2 : strandsV f b s st = (0, codeP f b s st) := by simp [strandsV, pairsV, hv]
    rw [hv2]
    generalize hq : codeP f b s st = q at *
    have Hq := Lib.hid hq
    clear hq hv2
    have ht : (q != 0) = true := by simpa using hv
    clear hv
    go_enter Tryd.func13, Tryd.ntmps13
    go_wp2_with (go_at_call 33; refine (l15Code_eq _ _ _ _ _ _ _ (by go_cell) (by go_cell) (by go_cell) Hq.out).mono ?_; rintro e w' ⟨rfl, q1, rfl⟩)
    go_ret2
    exact ⟨rfl, by (repeat' (first | (with_reducible exact Below.refl _ _) | (with_reducible assumption) | (with_reducible refine Below.drew ?_) | (with_reducible refine below_drewN ?_ _) | (with_reducible refine Below.setCell ?_ ?_ _) | (with_reducible refine Below.alloc ?_ ?_ _) | go_size))⟩
  have hv2 : strandsV f b s st = (((pairsL f.toNat b.toNat s.toNat st).length : Int), 0) := by simp [strandsV, pairsV, hv]
  rw [hv2]
  have Hq := Lib.hid hv
  unfold codeP at hv
  cases ho : okSeat f b s
  · simp [ho] at hv
  cases hs : inB st 1 6
  · simp [ho, hs] at hv
  clear hv hv2
  obtain ⟨⟨f0, f1⟩, ⟨b0, b1⟩, ⟨s0, s1⟩, hmod⟩ := (okSeat_iff _ _ _).1 ho
  obtain ⟨f, rfl⟩ := Int.eq_ofNat_of_zero_le (show 0 ≤ f by omega)
  obtain ⟨b, rfl⟩ := Int.eq_ofNat_of_zero_le (show 0 ≤ b by omega)
  obtain ⟨s, rfl⟩ := Int.eq_ofNat_of_zero_le (show 0 ≤ s by omega)
  have is := (inB_iff _ _ _).1 hs
  simp only [Int.toNat_natCast]
  go_enter Tryd.func13, Tryd.ntmps13
  go_wp2_with (first | (go_at_call 33; refine (l15Code_eq _ _ _ _ _ _ _ (by go_cell) (by go_cell) (by go_cell) Hq.out).mono ?_; rintro e w' ⟨rfl, q1, rfl⟩) | (go_at_call 34; refine (l15Pairs_any _ _ _ _ _ _ (by go_cell) (by go_cell) (by go_cell) ho is.1 is.2).mono ?_; rintro e w' ⟨A, n, c, rfl, hP, hb2⟩; have Hl := Lib.hid (OwnP.len hP)))
  go_ret2
  rw [Hl.out]
  refine ⟨rfl, ?_⟩
  refine Below.trans ?_ (hb2.mono (by simp))
  (repeat' (first | (with_reducible exact Below.refl _ _) | (with_reducible assumption) | (with_reducible refine Below.drew ?_) | (with_reducible refine below_drewN ?_ _) | (with_reducible refine Below.setCell ?_ ?_ _) | (with_reducible refine Below.alloc ?_ ?_ _) | go_size))

end Go.Proofs.YtgjjmgneekjapaaDoor
