/- PairsOf: the law. -/
import Derived.Test.YtgjjmgneekjapaaPairs3
import Derived.Test.YtgjjmgneekjapaaSS
namespace Go.Proofs.Ytgjjmgneekjapaa
open Go.RowKit
set_option linter.unusedVariables false
set_option linter.unusedSimpArgs false

theorem pairsV_len (f b s st : Int) : (pairsV f b s st).length ≤ 40 := by
  unfold pairsV
  by_cases h : codeP f b s st = 0
  · rw [if_pos h]
    unfold codeP at h
    cases ho : okSeat f b s
    · rw [ho] at h; simp at h
    obtain ⟨⟨f0, f1⟩, ⟨b0, b1⟩, ⟨s0, s1⟩, hmod⟩ := (okSeat_iff _ _ _).1 ho
    unfold pairsL stepN
    rw [List.length_map, List.length_range]
    split
    · omega
    · split <;> omega
  · rw [if_neg h]; simp
theorem law_FnExactPairsOf (f : Int) (_ : (Lit.int .i64 f).wf = true) (b : Int) (_ : (Lit.int .i64 b).wf = true) (s : Int) (_ : (Lit.int .i64 s).wf = true) (st : Int) (_ : (Lit.int .i64 st).wf = true) (w : World) : Calls Try.prog 11 #[.agg #[.int .i64 f, .int .i64 b, .int .i64 s], .int .i64 st] w fun e w' => e = .returned (.bool true) ∧ Below w.heap.size w w' := by
  have HPL := Lib.hid (pairsV_len f b s st)
  go_enter Try.func11, Try.ntmps11
  go_wp2_with fail
  have hBa : Below w.heap.size w (w.alloc (.cells #[.int .i64 f, .int .i64 b, .int .i64 s] 23)) := (Below.refl _ _).alloc (Nat.le_refl _) _
  have k0 : (w.alloc (.cells #[.int .i64 f, .int .i64 b, .int .i64 s] 23)).cell? ⟨w.heap.size, 0, none⟩ = some (.int .i64 f) := by go_cell
  have k1 : (w.alloc (.cells #[.int .i64 f, .int .i64 b, .int .i64 s] 23)).cell? ⟨w.heap.size, 1, none⟩ = some (.int .i64 b) := by go_cell
  have k2 : (w.alloc (.cells #[.int .i64 f, .int .i64 b, .int .i64 s] 23)).cell? ⟨w.heap.size, 2, none⟩ = some (.int .i64 s) := by go_cell
  refine (toSeat_any _ _ _ _).mono ?_
  rintro e w1 ⟨rfl, hb⟩
  replace k0 := keepc hb k0
  replace k1 := keepc hb k1
  replace k2 := keepc hb k2
  have hB1 := belowT hb hBa
  have za : w.heap.size + 1 ≤ w1.heap.size := by have := hb.size; rw [World.size_alloc] at this; exact this
  clear hb hBa
  go_wp2_with fail
  refine (specPairsOf_any _ _ _ _ _).mono ?_
  rintro e ws ⟨C, q, p, rfl, hs, hb⟩
  have hq : q ≤ 40 := by rw [← hs.len]; exact HPL.out
  replace k0 := keepc hb k0
  replace k1 := keepc hb k1
  replace k2 := keepc hb k2
  have hBs := belowT hb hB1
  have zs : w.heap.size + 1 ≤ ws.heap.size := Nat.le_trans za hb.size
  clear hb hB1
  go_wp2_with fail
  refine (toSeat_any _ _ _ _).mono ?_
  rintro e w1 ⟨rfl, hb1⟩
  replace k0 := keepc hb1 k0
  replace k1 := keepc hb1 k1
  replace k2 := keepc hb1 k2
  go_wp2_with fail
  refine (implPairsOf_any _ _ _ _ _).mono ?_
  rintro e w2 ⟨D, r, t, rfl, hg, hb2⟩
  obtain rfl : r = q := hg.len.symm.trans hs.len
  have hS2 := belowT hb2 hb1
  have hz1 := hb1.size
  have hz2 := hb2.size
  replace k0 := keepc hb2 k0
  replace k1 := keepc hb2 k1
  replace k2 := keepc hb2 k2
  clear hb1 hb2
  go_wp2_with fail
  refine (eqSS_same _ _ _ _ _ _ _ _ _ hg (hs.keep hS2) (by omega)).mono ?_
  rintro e w3 ⟨rfl, hb3⟩
  have hS3 := belowT hb3 hS2
  have hz3 := hb3.size
  replace hg := hg.keep hb3
  replace k0 := keepc hb3 k0
  replace k1 := keepc hb3 k1
  replace k2 := keepc hb3 k2
  clear hb3 hS2
  go_wp2_with fail
  refine (markSS_any _ _ _ _ _ _ _ hg (by omega) (by omega) (by omega) (by omega)).mono ?_
  rintro e w4 ⟨rfl, hg4, hb4⟩
  have hS4 : Below ws.heap.size ws w4 := hS3.trans (hb4.mono hz1)
  have hwlt : w.heap.size < w1.heap.size := by omega
  replace k0 := (hb4.cell (p := ⟨w.heap.size, 0, none⟩) hwlt).trans k0
  replace k1 := (hb4.cell (p := ⟨w.heap.size, 1, none⟩) hwlt).trans k1
  replace k2 := (hb4.cell (p := ⟨w.heap.size, 2, none⟩) hwlt).trans k2
  clear hg hS3 hb4
  go_wp2_with fail
  refine (heldSS_any _ _ _ _ _ _ hg4 (by omega) (by omega) (by omega)).mono ?_
  rintro e w' ⟨rfl, rfl⟩
  go_wp2_with fail
  refine (toSeat_any _ _ _ _).mono ?_
  rintro e w5 ⟨rfl, hb5⟩
  have hS5 := belowT hb5 hS4
  replace hg4 := hg4.keep hb5
  go_wp2_with fail
  refine (implPairsOf_any _ _ _ _ _).mono ?_
  rintro e w6 ⟨D2, r2, t2, rfl, hk, hb6⟩
  obtain rfl : r2 = r := hk.len.symm.trans hs.len
  have hS6 := belowT hb6 hS5
  replace hg4 := hg4.keep hb6
  go_wp2_with fail
  refine (eqSS_same _ _ _ _ _ _ _ _ _ hk (hs.keep hS6) (by omega)).mono ?_
  rintro e w7 ⟨rfl, hb7⟩
  have hS7 := belowT hb7 hS6
  replace hg4 := hg4.keep hb7
  go_wp2_with fail
  refine (heldSS_any _ _ _ _ _ _ hg4 (by omega) (by omega) (by omega)).mono ?_
  rintro e w' ⟨rfl, rfl⟩
  go_wp2
  go_ret
  exact ⟨rfl, belowT hS7 hBs⟩
end Go.Proofs.Ytgjjmgneekjapaa
