/- StrandsAt of the spec, and the law. -/
import Derived.Test.YtgjjmgneekjapaaDoorAt
namespace Go.Proofs.YtgjjmgneekjapaaDoor
open Go.RowKit
set_option linter.unusedVariables false
set_option linter.unusedSimpArgs false

set_option maxHeartbeats 2000000 in
theorem specStrandsAt_any (f b s n : Int) (w : World) : Calls Tryd.prog 16 #[.agg #[.int .i64 f, .int .i64 b, .int .i64 s], .int .i64 n] w fun e w' =>
    ∃ C q p, e = .returned (.tuple #[.slice C q p, .int .i64 (atV f b s n).2]) ∧ OwnI w' w.heap.size (.slice C q p) q (atV f b s n).1 ∧ Below w.heap.size w w' := by
  obtain ⟨i0, hi0, hz0, hz1, hz2⟩ := info_parts info_i64
  cases ho : okSeat f b s
  · have hv : atV f b s n = ([], 1) := by simp [atV, ho]
    rw [hv]
    clear hv
    go_enter Tryd.func16, Tryd.ntmps16
    go_wp2_with fail
    refine (l15Ok_eq _ _ _ _ false _ (by go_cell) (by go_cell) (by go_cell) ho).mono ?_
    rintro e w1 ⟨rfl, q1, rfl⟩
    go_wp2
    go_ret2
    exact ⟨none, 0, 0, rfl, World.ownsRow_nil _ _ _ _, by (repeat' (first | (with_reducible exact Below.refl _ _) | (with_reducible assumption) | (with_reducible refine Below.drew ?_) | (with_reducible refine below_drewN ?_ _) | (with_reducible refine Below.setCell ?_ ?_ _) | (with_reducible refine Below.alloc ?_ ?_ _) | go_size))⟩
  cases hs : inB n 0 6
  · have hv : atV f b s n = ([], 2) := by simp [atV, ho, hs]
    rw [hv]
    clear hv
    go_enter Tryd.func16, Tryd.ntmps16
    go_wp2_with fail
    refine (l15Ok_eq _ _ _ _ true _ (by go_cell) (by go_cell) (by go_cell) ho).mono ?_
    rintro e w1 ⟨rfl, q1, rfl⟩
    go_wp2_with (go_at_call 38; refine (l00In_any _ _ _ _).mono ?_; rintro e w' ⟨rfl, rfl⟩)
    go_ret2
    exact ⟨none, 0, 0, rfl, World.ownsRow_nil _ _ _ _, by (repeat' (first | (with_reducible exact Below.refl _ _) | (with_reducible assumption) | (with_reducible refine Below.drew ?_) | (with_reducible refine below_drewN ?_ _) | (with_reducible refine Below.setCell ?_ ?_ _) | (with_reducible refine Below.alloc ?_ ?_ _) | go_size))⟩
  have hv : atV f b s n = (saL f.toNat b.toNat s.toNat n.toNat, 0) := by simp [atV, ho, hs]
  rw [hv]
  clear hv
  obtain ⟨⟨f0, f1⟩, ⟨b0, b1⟩, ⟨s0, s1⟩, hmod⟩ := (okSeat_iff _ _ _).1 ho
  obtain ⟨n0, n1⟩ := (inB_iff _ _ _).1 hs
  clear hmod
  obtain ⟨f, rfl⟩ := Int.eq_ofNat_of_zero_le (show 0 ≤ f by omega)
  obtain ⟨b, rfl⟩ := Int.eq_ofNat_of_zero_le (show 0 ≤ b by omega)
  obtain ⟨s, rfl⟩ := Int.eq_ofNat_of_zero_le (show 0 ≤ s by omega)
  obtain ⟨n, rfl⟩ := Int.eq_ofNat_of_zero_le (show 0 ≤ n by omega)
  simp only [Int.toNat_natCast]
  have hbytes : i0.bytes * f ≤ 281474976710656 := by rw [hz2]; omega
  have hmx : f ≤ maxLen := by unfold maxLen; omega
  go_enter Tryd.func16, Tryd.ntmps16
  go_wp2_with fail
  refine (l15Ok_eq _ _ _ _ true _ (by go_cell) (by go_cell) (by go_cell) ho).mono ?_
  rintro e w1 ⟨rfl, q1, rfl⟩
  have hb : Below (w.alloc (.cells #[.int .i64 f, .int .i64 b, .int .i64 s] 25)).heap.size (w.alloc (.cells #[.int .i64 f, .int .i64 b, .int .i64 s] 25)) ((w.alloc (.cells #[.int .i64 f, .int .i64 b, .int .i64 s] 25)).drewN q1) := drew_below _ _
  generalize (w.alloc (.cells #[.int .i64 f, .int .i64 b, .int .i64 s] 25)).drewN q1 = w1 at hb ⊢
  have hsz1 : w.heap.size + 1 ≤ w1.heap.size := by have := hb.size; rw [World.size_alloc] at this; exact this
  obtain ⟨c0, c1, c2, hB⟩ := box_cells hb
  go_wp2_with (first | (go_at_call 38; refine (l00In_any _ _ _ _).mono ?_; rintro e w' ⟨rfl, rfl⟩) | (at_make; refine wpList_make_full _ rfl _ _ _ rfl w1.heap.size 2 i0 (.int .i64 0) 1 Tryd.underlying37 hi0 hz0 hz1 .i64 .i64 f f f rfl rfl rfl rfl hbytes hmx (Nat.le_refl _) ?_; intro w2 hown hg))
  have hB2 : Below w.heap.size w w2 := hB.grown hg hB.size (by simp)
  have x0 := hg.cell c0 (by simp)
  have x1 := hg.cell c1 (by simp)
  have x2 := hg.cell c2 (by simp)
  have hlt2 : w1.heap.size < w2.heap.size := (World.ownsRow.lt hown _ rfl).2
  clear hb hB c0 c1 c2 hg
  generalize w1.heap.size = OB at *
  go_loopw [7] (fun i wr => ∃ j : Nat, j ≤ n ∧ i = .int .i64 (j + 1) ∧ OwnI wr OB (.slice (some ⟨OB, 0, none⟩) f f) f (saL f b s j) ∧ Bnd (saL f b s j) (40 * j) ∧ (wr.cell? ⟨w.heap.size, 0, none⟩ = some (.int .i64 f) ∧ wr.cell? ⟨w.heap.size, 1, none⟩ = some (.int .i64 b) ∧ wr.cell? ⟨w.heap.size, 2, none⟩ = some (.int .i64 s)) ∧ OB < wr.heap.size ∧ Below w.heap.size w wr) (fun i _ => n + 2 - (intOf i).toNat)
  case atStart =>
    refine ⟨0, Nat.zero_le _, rfl, ?_, ?_, ⟨x0, x1, x2⟩, hlt2, hB2⟩
    · exact ownI_zeros hown
    · intro j z hz
      simp only [saL] at hz
      have := List.eq_of_mem_replicate (List.mem_of_getElem? hz)
      omega
  case round =>
    clear hown hB2 x0 x1 x2 hlt2
    obtain ⟨j, hj, rfl, hown, hbd, ⟨c0, c1, c2⟩, hOB0, hB⟩ := hrel
    have hOBw : w.heap.size ≤ OB := by omega
    have hOBn : some w.heap.size ≠ some OB := by intro e; injection e with e; omega
    by_cases hjn : j < n
    · by_cases hn2 : ((j : Int) + 1) = 2
      · have t2 : ((j : Int) + 1 == 2) = true := by rw [beq_iff_eq]; exact hn2
        have Hn := Lib.hid hn2
        clear hn2
        go_wp2
        go_roundw
        case rel =>
          have e5 : saL f b s (j + 1) = saL f b s j := by have := Hn.out; rw [saL, if_pos (by omega)]
          exact ⟨j + 1, by omega, by go_num, by rw [e5]; exact hown, by rw [e5]; exact hbd.mono (by omega), ⟨c0, c1, c2⟩, hOB0, hB⟩
        case measure => simp [intOf]; omega
      by_cases hn4 : ((j : Int) + 1) = 4
      · have t2 : ((j : Int) + 1 == 2) = false := by rw [beq_eq_false_iff_ne]; exact hn2
        have t4 : ((j : Int) + 1 == 4) = true := by rw [beq_iff_eq]; exact hn4
        have Hn := Lib.hid hn4
        clear hn2 hn4
        go_wp2
        go_roundw
        case rel =>
          have e5 : saL f b s (j + 1) = saL f b s j := by have := Hn.out; rw [saL, if_pos (by omega)]
          exact ⟨j + 1, by omega, by go_num, by rw [e5]; exact hown, by rw [e5]; exact hbd.mono (by omega), ⟨c0, c1, c2⟩, hOB0, hB⟩
        case measure => simp [intOf]; omega
      have t2 : ((j : Int) + 1 == 2) = false := by rw [beq_eq_false_iff_ne]; exact hn2
      have t4 : ((j : Int) + 1 == 4) = false := by rw [beq_eq_false_iff_ne]; exact hn4
      have hst : (1 : Int) ≤ (j : Int) + 1 := by omega
      have hst6 : (j : Int) + 1 ≤ 6 := by omega
      go_wp2_with (go_at_call 34; refine (l15Pairs_any _ _ _ _ _ _ c0 c1 c2 ho hst hst6).mono ?_; rintro e w2 ⟨A, m, c, rfl, hP, hb⟩)
      have hlen := OwnP.len hP
      rw [pairsL_len] at hlen
      have hn40 := stepN_le' (f := f) (s := s) (st := (j : Int) + 1) (by omega) (by omega)
      rw [hlen] at hn40
      have Hlen := Lib.hid hlen
      have Hn2 := Lib.hid hn2
      have Hn4 := Lib.hid hn4
      replace hown := OwnI.keep hown hb
      have hOB : OB < wr.heap.size := hOB0
      have hwsz := hb.size
      have d0 := keepc hb c0
      have d1 := keepc hb c1
      have d2 := keepc hb c2
      have hB1 := belowT hb hB
      clear hlen hn2 hn4 hb hB c0 c1 c2 hOB0
      generalize wr.heap.size = WS at *
      go_loopw [9] (fun i wx => ∃ k : Nat, k ≤ m ∧ i = .int .i64 k ∧ OwnI wx OB (.slice (some ⟨OB, 0, none⟩) f f) f (((pairsL f b s ((j : Int) + 1)).take k).foldl upd1 (saL f b s j)) ∧ Bnd (((pairsL f b s ((j : Int) + 1)).take k).foldl upd1 (saL f b s j)) (40 * j + k) ∧ OwnP wx WS (.slice A m c) m (pairsL f b s ((j : Int) + 1)) ∧
        (wx.cell? ⟨w.heap.size, 0, none⟩ = some (.int .i64 f) ∧ wx.cell? ⟨w.heap.size, 1, none⟩ = some (.int .i64 b) ∧ wx.cell? ⟨w.heap.size, 2, none⟩ = some (.int .i64 s)) ∧ Below w.heap.size w wx) (fun i _ => m - (intOf i).toNat)
      case atStart => exact ⟨0, Nat.zero_le _, rfl, hown, hbd.mono (by omega), hP, ⟨d0, d1, d2⟩, hB1⟩
      case round =>
        obtain ⟨k, hk, rfl, hown, hbd, hP, ⟨c0, c1, c2⟩, hB⟩ := hrel
        by_cases hlt : k < m
        · obtain ⟨bb, g, p, rfl, hp, e1, e2, e3, b5, b6, b7⟩ := OwnP.at_ hP hlt
          obtain ⟨h, hh, hhf⟩ := stepP_fst (f := f) (b := b) (s := s) (k := k) Hn2.out Hn4.out (by rw [Hlen.out]; exact hlt)
          have hpe := pairsL_at hp
          rw [← hpe] at hh
          rw [hh] at e2
          have hlen2 := OwnI.len hown
          have hz : (((pairsL f b s ((j : Int) + 1)).take k).foldl upd1 (saL f b s j))[h]? = some ((((pairsL f b s ((j : Int) + 1)).take k).foldl upd1 (saL f b s j))[h]'(by omega)) := List.getElem?_eq_getElem _
          generalize (((pairsL f b s ((j : Int) + 1)).take k).foldl upd1 (saL f b s j))[h]'(by omega) = z at hz
          have hz01 := hbd h z hz
          have hcz : wr.cell? ⟨OB, h, none⟩ = some (.int .i64 z) := by
            rw [World.ownsRow.cellAt hown h (by omega), List.getElem?_map, hz]; rfl
          have hfr := World.ownsRow.frozenAt hown h
          obtain ⟨hs', hg'⟩ := World.ownsRow.stored hown h (.int .i64 (z + 1))
          have e4 := (foldl_take_succ (L0 := saL f b s j) hp).trans (upd1_at hh hz)
          have E4 := Lib.hid e4
          have Hbd2 := Lib.hid (hbd.set hz)
          have Hs := Lib.hid hs'
          have Hg := Lib.hid hg'
          have h0' : (0 : Int) ≤ (h : Int) := by omega
          have h1' : (h : Int) < (f : Int) := by omega
          clear hz hpe hh hp hlen2 hs' hg' e4 hbd
          go_wp2
          go_roundw
          case rel =>
            refine ⟨k + 1, by omega, by go_num, ?_, ?_, OwnP.grown hP Hg.out hOB, ⟨?_, ?_, ?_⟩, below_grown1 hB Hg.out hOBw⟩
            · rw [E4.out]; have := Hs.out; rw [← List.map_set] at this; exact this
            · rw [E4.out]; exact Hbd2.out
            · exact Hg.out.cell c0 hOBn
            · exact Hg.out.cell c1 hOBn
            · exact Hg.out.cell c2 hOBn
          case measure => simp [intOf]; omega
        · obtain rfl : k = m := by omega
          go_wp2
          go_roundw
          case rel =>
            have e5 : ((pairsL f b s ((j : Int) + 1)).take k).foldl upd1 (saL f b s j) = saL f b s (j + 1) := by
              have h2 := Hn2.out
              have h4 := Hn4.out
              rw [List.take_of_length_le (by rw [pairsL_len, Hlen.out]; exact Nat.le_refl _), saL, if_neg (by omega)]
            rw [e5] at hown hbd
            exact ⟨j + 1, by omega, by go_num, hown, hbd.mono (by omega), ⟨c0, c1, c2⟩, World.ownsRow.lt hown _ rfl |>.2, hB⟩
          case measure => simp [intOf]; omega
    · obtain rfl : j = n := by omega
      go_wp2
      go_ret2
      exact ⟨_, _, _, rfl, World.ownsRow.mono hown (by omega), hB⟩
theorem foldl_upd_len (ps : List (Int × Int)) : ∀ L : List Int, (ps.foldl upd1 L).length = L.length := by
  induction ps with
  | nil => intro L; rfl
  | cons p ps ih => intro L; rw [List.foldl_cons, ih]; simp [upd1]
theorem saL_len (f b s : Nat) : ∀ j, (saL f b s j).length = f
  | 0 => by simp [saL]
  | j + 1 => by
    rw [saL]
    split
    · exact saL_len f b s j
    · rw [foldl_upd_len]; exact saL_len f b s j
theorem atV_len (f b s n : Int) : (atV f b s n).1.length ≤ 1048576 := by
  unfold atV
  cases ho : okSeat f b s
  · simp
  · obtain ⟨⟨f0, f1⟩, _⟩ := (okSeat_iff _ _ _).1 ho
    simp only [if_true]
    split
    · simp only [saL_len]; omega
    · simp

end Go.Proofs.YtgjjmgneekjapaaDoor
