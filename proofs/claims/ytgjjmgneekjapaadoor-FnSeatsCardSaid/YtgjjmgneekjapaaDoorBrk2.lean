/- BrokenStrands of the spec, and the law. -/
import Derived.Test.YtgjjmgneekjapaaDoorBrk
namespace Go.Proofs.YtgjjmgneekjapaaDoor
open Go.RowKit
set_option linter.unusedVariables false
set_option linter.unusedSimpArgs false

/-- How many of the first j steps begin at front holes. -/
def idx (j : Nat) : Nat := if j = 0 then 0 else if j ≤ 2 then 1 else if j ≤ 4 then 2 else if j = 5 then 3 else 4
theorem idx_skip {j : Nat} (h : (j : Int) + 1 = 2 ∨ (j : Int) + 1 = 4) : idx (j + 1) = idx j := by
  have : j = 1 ∨ j = 3 := by omega
  rcases this with rfl | rfl <;> rfl
theorem idx_step {j : Nat} (hj : j < 6) (h2 : (j : Int) + 1 ≠ 2) (h4 : (j : Int) + 1 ≠ 4) : idx (j + 1) = idx j + 1 ∧ (j : Int) + 1 = stA (idx j) ∧ idx j ≤ 4 := by
  have : j = 0 ∨ j = 2 ∨ j = 4 ∨ j = 5 := by omega
  rcases this with rfl | rfl | rfl | rfl <;> (refine ⟨rfl, by decide, by decide⟩)
theorem hit_all {f b k n : Nat} {st h : Int} (hk : k < n) (e : (stepP f b st k).1 = h) : hitB f b st h n = true := hitB_iff.2 ⟨k, hk, e⟩

set_option maxHeartbeats 2000000 in
theorem specBrokenStrands_any (f b s h : Int) (w : World) : Calls Tryd.prog 22 #[.agg #[.int .i64 f, .int .i64 b, .int .i64 s], .int .i64 h] w fun e w' =>
    ∃ C q p, e = .returned (.tuple #[.slice C q p, .int .i64 (brkV f b s h).2]) ∧ OwnI w' w.heap.size (.slice C q p) q (brkV f b s h).1 ∧ Below w.heap.size w w' := by
  obtain ⟨i0, hi0, hz0, hz1, hz2⟩ := info_parts info_i64
  cases ho : okSeat f b s
  · have hv : brkV f b s h = ([], 1) := by simp [brkV, ho]
    rw [hv]
    clear hv
    go_enter Tryd.func22, Tryd.ntmps22
    go_wp2_with fail
    refine (l15Ok_eq _ _ _ _ false _ (by go_cell) (by go_cell) (by go_cell) ho).mono ?_
    rintro e w1 ⟨rfl, q1, rfl⟩
    go_wp2
    go_ret2
    exact ⟨none, 0, 0, rfl, World.ownsRow_nil _ _ _ _, by (repeat' (first | (with_reducible exact Below.refl _ _) | (with_reducible assumption) | (with_reducible refine Below.drew ?_) | (with_reducible refine below_drewN ?_ _) | (with_reducible refine Below.setCell ?_ ?_ _) | (with_reducible refine Below.alloc ?_ ?_ _) | go_size))⟩
  obtain ⟨⟨f0, f1⟩, ⟨b0, b1⟩, ⟨s0, s1⟩, hmod⟩ := (okSeat_iff _ _ _).1 ho
  cases hs : inB h 0 (f - 1)
  · have hv : brkV f b s h = ([], 2) := by simp [brkV, ho, hs]
    rw [hv]
    clear hv
    go_enter Tryd.func22, Tryd.ntmps22
    go_wp2_with fail
    refine (l15Ok_eq _ _ _ _ true _ (by go_cell) (by go_cell) (by go_cell) ho).mono ?_
    rintro e w1 ⟨rfl, q1, rfl⟩
    go_wp2_with (go_at_call 38; refine (l00In_any _ _ _ _).mono ?_; rintro e w' ⟨rfl, rfl⟩)
    go_ret2
    exact ⟨none, 0, 0, rfl, World.ownsRow_nil _ _ _ _, by (repeat' (first | (with_reducible exact Below.refl _ _) | (with_reducible assumption) | (with_reducible refine Below.drew ?_) | (with_reducible refine below_drewN ?_ _) | (with_reducible refine Below.setCell ?_ ?_ _) | (with_reducible refine Below.alloc ?_ ?_ _) | go_size))⟩
  have hv : brkV f b s h = (bsL f.toNat b.toNat s.toNat h 4, 0) := by simp [brkV, ho, hs]
  rw [hv]
  clear hv
  obtain ⟨n0, n1⟩ := (inB_iff _ _ _).1 hs
  clear hmod
  obtain ⟨f, rfl⟩ := Int.eq_ofNat_of_zero_le (show 0 ≤ f by omega)
  obtain ⟨b, rfl⟩ := Int.eq_ofNat_of_zero_le (show 0 ≤ b by omega)
  obtain ⟨s, rfl⟩ := Int.eq_ofNat_of_zero_le (show 0 ≤ s by omega)
  simp only [Int.toNat_natCast]
  go_enter Tryd.func22, Tryd.ntmps22
  go_wp2_with fail
  refine (l15Ok_eq _ _ _ _ true _ (by go_cell) (by go_cell) (by go_cell) ho).mono ?_
  rintro e w1 ⟨rfl, q1, rfl⟩
  have hb : Below (w.alloc (.cells #[.int .i64 f, .int .i64 b, .int .i64 s] 25)).heap.size (w.alloc (.cells #[.int .i64 f, .int .i64 b, .int .i64 s] 25)) ((w.alloc (.cells #[.int .i64 f, .int .i64 b, .int .i64 s] 25)).drewN q1) := drew_below _ _
  generalize (w.alloc (.cells #[.int .i64 f, .int .i64 b, .int .i64 s] 25)).drewN q1 = w1 at hb ⊢
  have hsz1 : w.heap.size + 1 ≤ w1.heap.size := by have := hb.size; rw [World.size_alloc] at this; exact this
  obtain ⟨c0, c1, c2, hB⟩ := box_cells hb
  go_wp2_with (go_at_call 38; refine (l00In_any _ _ _ _).mono ?_; rintro e w' ⟨rfl, rfl⟩)
  have hBB : Below w1.heap.size w1 (w1.alloc (.cells #[] 2)) := (Below.refl _ _).alloc (Nat.le_refl _) _
  have d0 := keepc hBB c0
  have d1 := keepc hBB c1
  have d2 := keepc hBB c2
  have hown : OwnI (w1.alloc (.cells #[] 2)) w1.heap.size (.slice (some ⟨w1.heap.size, 0, none⟩) 0 0) 0 [] := World.ownsRow_made _ _ _ (Nat.le_refl _) (by unfold maxLen; omega) (by simp)
  have hB2 : Below w.heap.size w (w1.alloc (.cells #[] 2)) := hB.alloc hB.size _
  have hOB3 : w1.heap.size ≤ (w1.alloc (.cells #[] 2)).heap.size := hBB.size
  clear hb hB c0 c1 c2 hBB
  generalize w1.alloc (.cells #[] 2) = w3 at *
  generalize w1.heap.size = OB at *
  go_loopw [6, 7] (fun v i wr => ∃ j : Nat, j ≤ 6 ∧ i = .int .i64 (j + 1) ∧ (∃ C q p, v = .slice C q p ∧ OwnI wr OB (.slice C q p) q (bsL f b s h (idx j))) ∧
    (wr.cell? ⟨w.heap.size, 0, none⟩ = some (.int .i64 f) ∧ wr.cell? ⟨w.heap.size, 1, none⟩ = some (.int .i64 b) ∧ wr.cell? ⟨w.heap.size, 2, none⟩ = some (.int .i64 s)) ∧ OB ≤ wr.heap.size ∧ Below w.heap.size w wr) (fun _ i _ => 8 - (intOf i).toNat)
  case atStart => exact ⟨0, Nat.zero_le _, rfl, ⟨_, _, _, rfl, hown⟩, ⟨d0, d1, d2⟩, hOB3, hB2⟩
  case round =>
    clear hown hB2 d0 d1 d2 hOB3
    obtain ⟨j, hj, rfl, ⟨C, q, p, rfl, hown⟩, ⟨c0, c1, c2⟩, hOBr, hB⟩ := hrel
    by_cases hlt : j < 6
    · by_cases hn2 : ((j : Int) + 1) = 2
      · have t2 : ((j : Int) + 1 == 2) = true := by rw [beq_iff_eq]; exact hn2
        have e5 := idx_skip (.inl hn2)
        have E5 := Lib.hid e5
        clear hn2 e5
        go_wp2
        go_roundw
        case rel => exact ⟨j + 1, by omega, by go_num, ⟨_, _, _, rfl, by rw [E5.out]; exact hown⟩, ⟨c0, c1, c2⟩, hOBr, hB⟩
        case measure => simp [intOf]; omega
      by_cases hn4 : ((j : Int) + 1) = 4
      · have t2 : ((j : Int) + 1 == 2) = false := by rw [beq_eq_false_iff_ne]; exact hn2
        have t4 : ((j : Int) + 1 == 4) = true := by rw [beq_iff_eq]; exact hn4
        have e5 := idx_skip (.inr hn4)
        have E5 := Lib.hid e5
        clear hn2 hn4 e5
        go_wp2
        go_roundw
        case rel => exact ⟨j + 1, by omega, by go_num, ⟨_, _, _, rfl, by rw [E5.out]; exact hown⟩, ⟨c0, c1, c2⟩, hOBr, hB⟩
        case measure => simp [intOf]; omega
      have t2 : ((j : Int) + 1 == 2) = false := by rw [beq_eq_false_iff_ne]; exact hn2
      have t4 : ((j : Int) + 1 == 4) = false := by rw [beq_eq_false_iff_ne]; exact hn4
      obtain ⟨e5, e6, e7⟩ := idx_step hlt hn2 hn4
      have E5 := Lib.hid e5
      have E6 := Lib.hid e6
      generalize hix : idx j = ix at *
      have hix4 : ix ≤ 4 := e7
      have hst : (1 : Int) ≤ (j : Int) + 1 := by omega
      have hst6 : (j : Int) + 1 ≤ 6 := by omega
      clear hn2 hn4 e5 e6 e7 hix
      go_wp2_with (go_at_call 34; refine (l15Pairs_any _ _ _ _ _ _ c0 c1 c2 ho hst hst6).mono ?_; rintro e w2 ⟨A, m, c, rfl, hP, hb⟩)
      have hlen := OwnP.len hP
      rw [pairsL_len] at hlen
      have Hlen := Lib.hid hlen
      have hm40 : m ≤ 40 := by rw [← hlen]; exact stepN_le (by omega) (by omega)
      replace hown := OwnI.keep hown hb
      have hql := OwnI.len hown
      have hbl := bsL_len f b s h ix
      rw [hql] at hbl
      have d0 := keepc hb c0
      have d1 := keepc hb c1
      have d2 := keepc hb c2
      have hB1 := belowT hb hB
      have hOB2 : OB ≤ w2.heap.size := Nat.le_trans hOBr hb.size
      clear hlen hql hb hB c0 c1 c2 hOBr
      generalize wr.heap.size = WS at *
      go_loopw [6, 9] (fun v i wr => ∃ k : Nat, k ≤ m ∧ i = .int .i64 k ∧ hitB f b ((j : Int) + 1) h k = false ∧ v = .slice C q p ∧ wr = w2) (fun _ i _ => m - (intOf i).toNat)
      case atStart => exact ⟨0, Nat.zero_le _, rfl, rfl, rfl, rfl⟩
      case round =>
        obtain ⟨k, hk, rfl, hno, rfl, rfl⟩ := hrel
        by_cases hlt2 : k < m
        · obtain ⟨bb, g, pr, rfl, hp, e1, e2, e3, b5, b6, b7⟩ := OwnP.at_ hP hlt2
          have hpe := pairsL_at hp
          by_cases hh : pr.1 = h
          · have ht : (pr.1 == h) = true := by rw [beq_iff_eq]; exact hh
            have hall : hitB f b ((j : Int) + 1) h (stepN f s ((j : Int) + 1)) = true := hit_all (by rw [Hlen.out]; exact hlt2) (by rw [← hpe]; exact hh)
            have e8 : bsL f b s h (idx (j + 1)) = bsL f b s h ix ++ [(j : Int) + 1] := by
              rw [E5.out, bsL, ← E6.out]
              unfold hitL
              rw [if_pos hall]
            have E8 := Lib.hid e8
            have hBs := hB1.size
            clear hh hall e8 hpe hp hno
            go_wp2_with (at_builtin; refine wpList_append_lies _ rfl _ _ 37 rfl (OB) 2 i0 (.int .i64 0) 1 8 Tryd.underlying37 hi0 hz0 hz1 hz2 rfl (by decide) _ _ _ rfl (hown.alloc _) ⟨_, 0, none⟩ 1 1 [.int .i64 ((j : Int) + 1)] rfl rfl (cell_one_new _ _ _) (ints_oneCell .i64 [((j : Int) + 1)]) (by decide) (by unfold maxLen; omega) (by omega) (by simp; omega) (wr.heap.size + 1) (by simp) ?_; intro gn cap w1 hown1 hgrow1 hat1 hlt1)
            go_roundw
            case rel =>
              have hrow : ∀ g, (Value.slice C q p).ownBlock = some g → OB ≤ g := fun g e => (World.ownsRow.lt hown g e).1
              refine ⟨j + 1, by omega, by go_num, ⟨_, _, _, rfl, by rw [E8.out]; exact ownI_lies hown1⟩, ⟨?_, ?_, ?_⟩, by have := hgrow1.size; simp at this; omega, ?_⟩
              · exact cell_app hgrow1 d0 (fun e => by have := (hrow _ e); simp only at this; omega)
              · exact cell_app hgrow1 d1 (fun e => by have := (hrow _ e); simp only at this; omega)
              · exact cell_app hgrow1 d2 (fun e => by have := (hrow _ e); simp only at this; omega)
              · exact (hB1.alloc hBs _).grown hgrow1 (by simp; omega) (fun g e => by have := (hrow g e); omega)
            case measure => simp [intOf]; omega
          · have ht : (pr.1 == h) = false := by rw [beq_eq_false_iff_ne]; exact hh
            have e7 : hitB f b ((j : Int) + 1) h (k + 1) = false := by rw [hitB, hno, ← hpe]; simp [hh]
            have E7 := Lib.hid e7
            clear hh e7 hpe hp hno
            go_wp2
            go_roundw
            case rel => exact ⟨k + 1, by omega, by go_num, E7.out, rfl, by first | rfl | trivial⟩
            case measure => simp [intOf]; omega
        · obtain rfl : k = m := by omega
          have e8 : bsL f b s h (idx (j + 1)) = bsL f b s h ix := by
            rw [E5.out, bsL, ← E6.out, Hlen.out]
            unfold hitL
            rw [if_neg (by rw [hno]; simp), List.append_nil]
          have E8 := Lib.hid e8
          clear hno e8
          go_wp2
          go_roundw
          case rel => exact ⟨j + 1, by omega, by go_num, ⟨_, _, _, rfl, by rw [E8.out]; exact hown⟩, ⟨d0, d1, d2⟩, hOB2, hB1⟩
          case measure => simp [intOf]; omega
    · obtain rfl : j = 6 := by omega
      go_wp2
      go_ret2
      exact ⟨_, _, _, rfl, World.ownsRow.mono hown (by omega), hB⟩
end Go.Proofs.YtgjjmgneekjapaaDoor
