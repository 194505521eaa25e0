/- CaneFor of the spec, and the law. -/
import Derived.Test.YtgjjmgneekjapaaCane
namespace Go.Proofs.Ytgjjmgneekjapaa
open Go.RowKit
set_option linter.unusedVariables false
set_option linter.unusedSimpArgs false

/-- What the first k pairs of a step add. -/
def ptC (f s a st : Int) (k : Nat) : Int := if st = 1 ∨ st = 3 then k * (a * s) else if st = 2 ∨ st = 4 then k * (a * f) else a * k * (k - 1)
/-- What the first j steps add. -/
def cumC (f s a : Int) : Nat → Int
  | 0 => 0
  | j + 1 => cumC f s a j + ptC f s a (j + 1) (stepN f.toNat s.toNat (j + 1))
theorem cumC_6 (f s a : Nat) : cumC f s a 6 = canes f s a := by
  simp only [cumC, ptC, stepN, canes, Int.toNat_natCast]
  by_cases h : f ≤ s
  · have h1 : min f s = f := Nat.min_eq_left h
    have h2 : min (f : Int) s = f := by omega
    simp [h1, h2]
    grind
  · have h1 : min f s = s := Nat.min_eq_right (by omega)
    have h2 : min (f : Int) s = s := by omega
    simp [h1, h2]
    grind
theorem pairsL_len (f b s : Nat) (st : Int) : (pairsL f b s st).length = stepN f s st := by simp [pairsL]
theorem pairsL_at {f b s k : Nat} {st : Int} {p : Int × Int} (h : (pairsL f b s st)[k]? = some p) : p = stepP f b st k := by
  unfold pairsL at h
  rw [List.getElem?_map] at h
  have hk := (List.getElem?_eq_some_iff.1 (show (pairsL f b s st)[k]? = some p by unfold pairsL; rw [List.getElem?_map]; exact h)).1
  rw [pairsL_len] at hk
  rw [List.getElem?_range hk] at h
  simpa using h.symm
theorem stepN_le {f s : Nat} {st : Int} (hf : f ≤ 40) (hs : s ≤ 40) : stepN f s st ≤ 40 := by
  unfold stepN
  split
  · exact hf
  · split
    · exact hs
    · omega

set_option maxHeartbeats 4000000 in
theorem specCaneFor_any (f b s a : Int) (w : World) : Calls Try.prog 22 #[.agg #[.int .i64 f, .int .i64 b, .int .i64 s], .int .i64 a] w fun e w' => e = .returned (.tuple #[.int .i64 (caneV f b s a).1, .int .i64 (caneV f b s a).2]) ∧ Below w.heap.size w w' := by
  cases ho : okSeat f b s
  · have hv : caneV f b s a = (0, 1) := by simp [caneV, ho]
    rw [hv]
    clear hv
    go_enter Try.func22, Try.ntmps22
    go_wp2_with fail
    refine (l15Ok_eq _ _ _ _ false _ (by go_cell) (by go_cell) (by go_cell) ho).mono ?_
    rintro e w1 ⟨rfl, q1, rfl⟩
    go_wp2
    go_ret2
    exact ⟨rfl, by (repeat' (first | (with_reducible exact Below.refl _ _) | (with_reducible assumption) | (with_reducible refine Below.drew ?_) | (with_reducible refine below_drewN ?_ _) | (with_reducible refine Below.setCell ?_ ?_ _) | (with_reducible refine Below.alloc ?_ ?_ _) | go_size))⟩
  cases hs : inB a 5 50
  · have hv : caneV f b s a = (0, 2) := by simp [caneV, ho, hs]
    rw [hv]
    clear hv
    go_enter Try.func22, Try.ntmps22
    go_wp2_with fail
    refine (l15Ok_eq _ _ _ _ true _ (by go_cell) (by go_cell) (by go_cell) ho).mono ?_
    rintro e w1 ⟨rfl, q1, rfl⟩
    go_wp2_with (go_at_call 45; refine (l00In_any _ _ _ _).mono ?_; rintro e w' ⟨rfl, rfl⟩)
    go_ret2
    exact ⟨rfl, by (repeat' (first | (with_reducible exact Below.refl _ _) | (with_reducible assumption) | (with_reducible refine Below.drew ?_) | (with_reducible refine below_drewN ?_ _) | (with_reducible refine Below.setCell ?_ ?_ _) | (with_reducible refine Below.alloc ?_ ?_ _) | go_size))⟩
  have hv : caneV f b s a = (canes f s a, 0) := by simp [caneV, ho, hs]
  rw [hv]
  clear hv
  obtain ⟨⟨f0, f1⟩, ⟨b0, b1⟩, ⟨s0, s1⟩, hmod⟩ := (okSeat_iff _ _ _).1 ho
  obtain ⟨a0, a1⟩ := (inB_iff _ _ _).1 hs
  clear hmod
  obtain ⟨f, rfl⟩ := Int.eq_ofNat_of_zero_le (show 0 ≤ f by omega)
  obtain ⟨b, rfl⟩ := Int.eq_ofNat_of_zero_le (show 0 ≤ b by omega)
  obtain ⟨s, rfl⟩ := Int.eq_ofNat_of_zero_le (show 0 ≤ s by omega)
  obtain ⟨a, rfl⟩ := Int.eq_ofNat_of_zero_le (show 0 ≤ a by omega)
  rw [← cumC_6]
  have f1 : f ≤ 40 := by omega
  have s1 : s ≤ 40 := by omega
  have m1 := mulb (x := (a : Int)) (y := (s : Int)) (A := 50) (B := 40) (by omega) (by omega) (by omega) (by omega)
  have m2 := mulb (x := (a : Int)) (y := (f : Int)) (A := 50) (B := 40) (by omega) (by omega) (by omega) (by omega)
  go_enter Try.func22, Try.ntmps22
  go_wp2_with (first | (go_at_call 42; refine (l15Ok_eq _ _ _ _ true _ (by go_cell) (by go_cell) (by go_cell) ho).mono ?_; rintro e w' ⟨rfl, q1, rfl⟩) | (go_at_call 45; refine (l00In_any _ _ _ _).mono ?_; rintro e w' ⟨rfl, rfl⟩))
  go_loopw [6, 7] (fun v i wr => ∃ j : Nat, j ≤ 6 ∧ i = .int .i64 (j + 1) ∧ ∃ u : Int, v = .int .i64 u ∧ Hid (u = cumC f s a j) ∧ 0 ≤ u ∧ u ≤ 160000 * j ∧ (wr.cell? ⟨w.heap.size, 0, none⟩ = some (.int .i64 f) ∧ wr.cell? ⟨w.heap.size, 1, none⟩ = some (.int .i64 b) ∧ wr.cell? ⟨w.heap.size, 2, none⟩ = some (.int .i64 s) ∧ Below w.heap.size w wr)) (fun _ i _ => 8 - (intOf i).toNat)
  case atStart => exact ⟨0, by omega, rfl, _, rfl, Lib.hid rfl, by omega, by omega, by go_cell, by go_cell, by go_cell, by (repeat' (first | (with_reducible exact Below.refl _ _) | (with_reducible assumption) | (with_reducible refine Below.drew ?_) | (with_reducible refine below_drewN ?_ _) | (with_reducible refine Below.setCell ?_ ?_ _) | (with_reducible refine Below.alloc ?_ ?_ _) | go_size))⟩
  case round =>
    obtain ⟨j, hj, rfl, v, rfl, Hv, v0, v1, c0, c1, c2, hB⟩ := hrel
    have hcases : j = 0 ∨ j = 1 ∨ j = 2 ∨ j = 3 ∨ j = 4 ∨ j = 5 ∨ j = 6 := by omega
    rcases hcases with rfl | rfl | rfl | rfl | rfl | rfl | rfl
    · have hn1 : (1 : Int) ≤ 1 := by omega
      go_wp2_with (go_at_call 48; refine (l15Pairs_any _ _ _ _ _ _ c0 c1 c2 ho (by omega) (by omega)).mono ?_; rintro e w1 ⟨A, n, c, rfl, hP, hb⟩)
      have d0 := keepc hb c0
      have d1 := keepc hb c1
      have d2 := keepc hb c2
      have hB1 := belowT hb hB
      have hlen := OwnP.len hP
      rw [pairsL_len] at hlen
      have hn40 := stepN_le (st := 1) f1 s1
      rw [hlen] at hn40
      have Hlen := Lib.hid hlen
      clear hlen hb hB c0 c1 c2
      go_loop [6, 9] (fun v i => ∃ k : Nat, k ≤ n ∧ i = .int .i64 k ∧ ∃ u : Int, v = .int .i64 u ∧ Hid (u = cumC f s a 0 + ptC f s a 1 k) ∧ 0 ≤ u ∧ u ≤ 160000 * 0 + 4000 * k) (fun _ i => n - (intOf i).toNat)
      case atStart => exact ⟨0, Nat.zero_le _, rfl, _, rfl, Lib.hid (by rw [Hv.out]; simp [ptC]), by omega, by omega⟩
      case round =>
        obtain ⟨k, hk, rfl, u, rfl, Hu, u0, u1⟩ := hrel
        by_cases hlt : k < n
        · have hk40 : k < 40 := by omega
          go_wp2
          go_round
          case rel => exact ⟨k + 1, by omega, by go_num, _, rfl, Lib.hid (by rw [Hu.out]; simp [ptC]; grind), by omega, by omega⟩
          case measure => simp [intOf]; omega
        · obtain rfl : k = n := by omega
          go_wp2
          go_roundw
          case rel => exact ⟨0 + 1, by omega, by go_num, _, rfl, Lib.hid (by rw [Hu.out]; simp only [cumC, Int.toNat_natCast]; have e := Hlen.out; simp at e ⊢; try rw [e]), by omega, by omega, d0, d1, d2, hB1⟩
          case measure => simp [intOf]
    · have hn1 : (1 : Int) ≤ 2 := by omega
      go_wp2_with (go_at_call 48; refine (l15Pairs_any _ _ _ _ _ _ c0 c1 c2 ho (by omega) (by omega)).mono ?_; rintro e w1 ⟨A, n, c, rfl, hP, hb⟩)
      have d0 := keepc hb c0
      have d1 := keepc hb c1
      have d2 := keepc hb c2
      have hB1 := belowT hb hB
      have hlen := OwnP.len hP
      rw [pairsL_len] at hlen
      have hn40 := stepN_le (st := 2) f1 s1
      rw [hlen] at hn40
      have Hlen := Lib.hid hlen
      clear hlen hb hB c0 c1 c2
      go_loop [6, 9] (fun v i => ∃ k : Nat, k ≤ n ∧ i = .int .i64 k ∧ ∃ u : Int, v = .int .i64 u ∧ Hid (u = cumC f s a 1 + ptC f s a 2 k) ∧ 0 ≤ u ∧ u ≤ 160000 * 1 + 4000 * k) (fun _ i => n - (intOf i).toNat)
      case atStart => exact ⟨0, Nat.zero_le _, rfl, _, rfl, Lib.hid (by rw [Hv.out]; simp [ptC]), by omega, by omega⟩
      case round =>
        obtain ⟨k, hk, rfl, u, rfl, Hu, u0, u1⟩ := hrel
        by_cases hlt : k < n
        · have hk40 : k < 40 := by omega
          go_wp2
          go_round
          case rel => exact ⟨k + 1, by omega, by go_num, _, rfl, Lib.hid (by rw [Hu.out]; simp [ptC]; grind), by omega, by omega⟩
          case measure => simp [intOf]; omega
        · obtain rfl : k = n := by omega
          go_wp2
          go_roundw
          case rel => exact ⟨1 + 1, by omega, by go_num, _, rfl, Lib.hid (by rw [Hu.out]; simp only [cumC, Int.toNat_natCast]; have e := Hlen.out; simp at e ⊢; try rw [e]), by omega, by omega, d0, d1, d2, hB1⟩
          case measure => simp [intOf]
    · have hn1 : (1 : Int) ≤ 3 := by omega
      go_wp2_with (go_at_call 48; refine (l15Pairs_any _ _ _ _ _ _ c0 c1 c2 ho (by omega) (by omega)).mono ?_; rintro e w1 ⟨A, n, c, rfl, hP, hb⟩)
      have d0 := keepc hb c0
      have d1 := keepc hb c1
      have d2 := keepc hb c2
      have hB1 := belowT hb hB
      have hlen := OwnP.len hP
      rw [pairsL_len] at hlen
      have hn40 := stepN_le (st := 3) f1 s1
      rw [hlen] at hn40
      have Hlen := Lib.hid hlen
      clear hlen hb hB c0 c1 c2
      go_loop [6, 9] (fun v i => ∃ k : Nat, k ≤ n ∧ i = .int .i64 k ∧ ∃ u : Int, v = .int .i64 u ∧ Hid (u = cumC f s a 2 + ptC f s a 3 k) ∧ 0 ≤ u ∧ u ≤ 160000 * 2 + 4000 * k) (fun _ i => n - (intOf i).toNat)
      case atStart => exact ⟨0, Nat.zero_le _, rfl, _, rfl, Lib.hid (by rw [Hv.out]; simp [ptC]), by omega, by omega⟩
      case round =>
        obtain ⟨k, hk, rfl, u, rfl, Hu, u0, u1⟩ := hrel
        by_cases hlt : k < n
        · have hk40 : k < 40 := by omega
          go_wp2
          go_round
          case rel => exact ⟨k + 1, by omega, by go_num, _, rfl, Lib.hid (by rw [Hu.out]; simp [ptC]; grind), by omega, by omega⟩
          case measure => simp [intOf]; omega
        · obtain rfl : k = n := by omega
          go_wp2
          go_roundw
          case rel => exact ⟨2 + 1, by omega, by go_num, _, rfl, Lib.hid (by rw [Hu.out]; simp only [cumC, Int.toNat_natCast]; have e := Hlen.out; simp at e ⊢; try rw [e]), by omega, by omega, d0, d1, d2, hB1⟩
          case measure => simp [intOf]
    · have hn1 : (1 : Int) ≤ 4 := by omega
      go_wp2_with (go_at_call 48; refine (l15Pairs_any _ _ _ _ _ _ c0 c1 c2 ho (by omega) (by omega)).mono ?_; rintro e w1 ⟨A, n, c, rfl, hP, hb⟩)
      have d0 := keepc hb c0
      have d1 := keepc hb c1
      have d2 := keepc hb c2
      have hB1 := belowT hb hB
      have hlen := OwnP.len hP
      rw [pairsL_len] at hlen
      have hn40 := stepN_le (st := 4) f1 s1
      rw [hlen] at hn40
      have Hlen := Lib.hid hlen
      clear hlen hb hB c0 c1 c2
      go_loop [6, 9] (fun v i => ∃ k : Nat, k ≤ n ∧ i = .int .i64 k ∧ ∃ u : Int, v = .int .i64 u ∧ Hid (u = cumC f s a 3 + ptC f s a 4 k) ∧ 0 ≤ u ∧ u ≤ 160000 * 3 + 4000 * k) (fun _ i => n - (intOf i).toNat)
      case atStart => exact ⟨0, Nat.zero_le _, rfl, _, rfl, Lib.hid (by rw [Hv.out]; simp [ptC]), by omega, by omega⟩
      case round =>
        obtain ⟨k, hk, rfl, u, rfl, Hu, u0, u1⟩ := hrel
        by_cases hlt : k < n
        · have hk40 : k < 40 := by omega
          go_wp2
          go_round
          case rel => exact ⟨k + 1, by omega, by go_num, _, rfl, Lib.hid (by rw [Hu.out]; simp [ptC]; grind), by omega, by omega⟩
          case measure => simp [intOf]; omega
        · obtain rfl : k = n := by omega
          go_wp2
          go_roundw
          case rel => exact ⟨3 + 1, by omega, by go_num, _, rfl, Lib.hid (by rw [Hu.out]; simp only [cumC, Int.toNat_natCast]; have e := Hlen.out; simp at e ⊢; try rw [e]), by omega, by omega, d0, d1, d2, hB1⟩
          case measure => simp [intOf]
    · have hn1 : (1 : Int) ≤ 5 := by omega
      go_wp2_with (go_at_call 48; refine (l15Pairs_any _ _ _ _ _ _ c0 c1 c2 ho (by omega) (by omega)).mono ?_; rintro e w1 ⟨A, n, c, rfl, hP, hb⟩)
      have d0 := keepc hb c0
      have d1 := keepc hb c1
      have d2 := keepc hb c2
      have hB1 := belowT hb hB
      have hlen := OwnP.len hP
      rw [pairsL_len] at hlen
      have hn40 := stepN_le (st := 5) f1 s1
      rw [hlen] at hn40
      have Hlen := Lib.hid hlen
      clear hlen hb hB c0 c1 c2
      go_loop [6, 9] (fun v i => ∃ k : Nat, k ≤ n ∧ i = .int .i64 k ∧ ∃ u : Int, v = .int .i64 u ∧ Hid (u = cumC f s a 4 + ptC f s a 5 k) ∧ 0 ≤ u ∧ u ≤ 160000 * 4 + 4000 * k) (fun _ i => n - (intOf i).toNat)
      case atStart => exact ⟨0, Nat.zero_le _, rfl, _, rfl, Lib.hid (by rw [Hv.out]; simp [ptC]), by omega, by omega⟩
      case round =>
        obtain ⟨k, hk, rfl, u, rfl, Hu, u0, u1⟩ := hrel
        by_cases hlt : k < n
        · have hk40 : k < 40 := by omega
          obtain ⟨bb, g, p, rfl, hp, e1, e2, e3, _⟩ := OwnP.at_ hP hlt
          have hpk : p.2 = k := by rw [pairsL_at hp]; simp [stepP]
          rw [hpk] at e3
          clear hpk hp
          have m3 := mulb (x := 2 * (a : Int)) (y := (k : Int)) (A := 100) (B := 40) (by omega) (by omega) (by omega) (by omega)
          go_wp2
          go_round
          case rel => exact ⟨k + 1, by omega, by go_num, _, rfl, Lib.hid (by rw [Hu.out]; simp [ptC]; grind), by omega, by omega⟩
          case measure => simp [intOf]; omega
        · obtain rfl : k = n := by omega
          go_wp2
          go_roundw
          case rel => exact ⟨4 + 1, by omega, by go_num, _, rfl, Lib.hid (by rw [Hu.out]; simp only [cumC, Int.toNat_natCast]; have e := Hlen.out; simp at e ⊢; try rw [e]), by omega, by omega, d0, d1, d2, hB1⟩
          case measure => simp [intOf]
    · have hn1 : (1 : Int) ≤ 6 := by omega
      go_wp2_with (go_at_call 48; refine (l15Pairs_any _ _ _ _ _ _ c0 c1 c2 ho (by omega) (by omega)).mono ?_; rintro e w1 ⟨A, n, c, rfl, hP, hb⟩)
      have d0 := keepc hb c0
      have d1 := keepc hb c1
      have d2 := keepc hb c2
      have hB1 := belowT hb hB
      have hlen := OwnP.len hP
      rw [pairsL_len] at hlen
      have hn40 := stepN_le (st := 6) f1 s1
      rw [hlen] at hn40
      have Hlen := Lib.hid hlen
      clear hlen hb hB c0 c1 c2
      go_loop [6, 9] (fun v i => ∃ k : Nat, k ≤ n ∧ i = .int .i64 k ∧ ∃ u : Int, v = .int .i64 u ∧ Hid (u = cumC f s a 5 + ptC f s a 6 k) ∧ 0 ≤ u ∧ u ≤ 160000 * 5 + 4000 * k) (fun _ i => n - (intOf i).toNat)
      case atStart => exact ⟨0, Nat.zero_le _, rfl, _, rfl, Lib.hid (by rw [Hv.out]; simp [ptC]), by omega, by omega⟩
      case round =>
        obtain ⟨k, hk, rfl, u, rfl, Hu, u0, u1⟩ := hrel
        by_cases hlt : k < n
        · have hk40 : k < 40 := by omega
          obtain ⟨bb, g, p, rfl, hp, e1, e2, e3, _⟩ := OwnP.at_ hP hlt
          have hpk : p.2 = k := by rw [pairsL_at hp]; simp [stepP]
          rw [hpk] at e3
          clear hpk hp
          have m3 := mulb (x := 2 * (a : Int)) (y := (k : Int)) (A := 100) (B := 40) (by omega) (by omega) (by omega) (by omega)
          go_wp2
          go_round
          case rel => exact ⟨k + 1, by omega, by go_num, _, rfl, Lib.hid (by rw [Hu.out]; simp [ptC]; grind), by omega, by omega⟩
          case measure => simp [intOf]; omega
        · obtain rfl : k = n := by omega
          go_wp2
          go_roundw
          case rel => exact ⟨5 + 1, by omega, by go_num, _, rfl, Lib.hid (by rw [Hu.out]; simp only [cumC, Int.toNat_natCast]; have e := Hlen.out; simp at e ⊢; try rw [e]), by omega, by omega, d0, d1, d2, hB1⟩
          case measure => simp [intOf]
    · go_wp2
      go_ret2
      rw [Hv.out]
      exact ⟨rfl, hB⟩
theorem law_FnExactCaneFor (f : Int) (_ : (Lit.int .i64 f).wf = true) (b : Int) (_ : (Lit.int .i64 b).wf = true) (s : Int) (_ : (Lit.int .i64 s).wf = true) (st : Int) (_ : (Lit.int .i64 st).wf = true) (w : World) : Calls Try.prog 7 #[.agg #[.int .i64 f, .int .i64 b, .int .i64 s], .int .i64 st] w fun e w' => e = .returned (.bool true) ∧ Below w.heap.size w w' := by
  go_enter Try.func7, Try.ntmps7
  go_wp2_with fail
  refine (toSeat_any _ _ _ _).mono ?_
  rintro e w1 ⟨rfl, hb1⟩
  go_wp2_with fail
  refine (specCaneFor_any _ _ _ _ _).mono ?_
  rintro e w2 ⟨rfl, hb2⟩
  have hb := hb1.trans (hb2.mono hb1.size)
  obtain ⟨c0, c1, c2, hB⟩ := box_cells hb
  go_wp2_with fail
  refine (toSeat_any _ _ _ _).mono ?_
  rintro e w3 ⟨rfl, hb3⟩
  go_wp2_with fail
  refine (implCaneFor_any _ _ _ _ _).mono ?_
  rintro e w4 ⟨rfl, hb4⟩
  go_wp2
  go_ret
  exact ⟨rfl, belowT hb4 (belowT hb3 hB)⟩
end Go.Proofs.Ytgjjmgneekjapaa
