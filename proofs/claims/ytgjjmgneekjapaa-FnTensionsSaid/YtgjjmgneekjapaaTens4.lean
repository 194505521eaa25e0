/- DrawCaneFor. -/
import Derived.Test.YtgjjmgneekjapaaTens3
namespace Go.Proofs.Ytgjjmgneekjapaa
open Go.RowKit
set_option linter.unusedVariables false
set_option linter.unusedSimpArgs false

def DrawnSeatN (w : World) (e : Ending) (w' : World) : Prop := ∃ f b s a : Int, e = .returned (.tuple #[.agg #[.int .i64 f, .int .i64 b, .int .i64 s], .int .i64 a]) ∧ -1 ≤ a ∧ a ≤ 1000 ∧ Below w.heap.size w w'
set_option maxHeartbeats 4000000 in
theorem drawCaneFor_any (A : Option Addr) (n c : Nat) (w : World) (h : Bytes w w.heap.size A n) : Calls Try.prog 41 #[.slice A n c] w (DrawnSeatN w) := by
  go_enter Try.func41, Try.ntmps41
  go_wp2_with fail
  have r0 := B3.new w 0 0 0 25
  have hB0 : Below w.heap.size w (w.alloc (.cells #[.int .i64 0, .int .i64 0, .int .i64 0] 25)) := (Below.refl _ _).alloc (Nat.le_refl _) _
  refine (l00From_any _ _ _ w.heap.size _ (h.keep hB0) (by simp)).mono ?_
  rintro e w1 ⟨rfl, hs1, hb1⟩
  have hB := belowT hb1 hB0
  have r1 := r0.keep hb1
  have hpsz : w.heap.size < (w.alloc (.cells #[.int .i64 0, .int .i64 0, .int .i64 0] 25)).heap.size := by simp
  generalize hp : (w.alloc (.cells #[.int .i64 0, .int .i64 0, .int .i64 0] 25)).heap.size = p at *
  have hp' : w.heap.size ≤ p := by omega
  have hRp : w.heap.size ≠ p := by omega
  clear hp r0 hB0 hb1
  go_wp2_with fail
  refine (l15Draw_any _ _ _ _ hs1 (by omega)).mono ?_
  rintro e w2 ⟨f, b, s, rfl, hs2, hg2⟩
  replace hB := hs1.below hB hp' hg2
  replace r1 := r1.grown hg2 hRp
  clear hs1 hg2
  have hps := hs2.lt
  go_wp2_with fail
  have x2 := B3.new w2 f b s 25
  have hs3 := hs2.alloc (.cells #[.int .i64 f, .int .i64 b, .int .i64 s] 25)
  have r2 := r1.alloc (.cells #[.int .i64 f, .int .i64 b, .int .i64 s] 25)
  replace hB := hB.alloc hB.size (.cells #[.int .i64 f, .int .i64 b, .int .i64 s] 25)
  have hlt := r1.lt
  generalize w2.heap.size = X at *
  generalize w2.alloc (.cells #[.int .i64 f, .int .i64 b, .int .i64 s] 25) = wa at *
  have hXp : X ≠ p := by omega
  clear r1 hs2
  (refine (one_any _ _ _ _ _ hs3 (by omega) (by omega)).mono ?_)
  rintro e w3 ⟨t, rfl, hs4, hg4⟩
  replace hB := hs3.below hB hp' hg4
  replace x2 := x2.grown hg4 hXp
  replace r2 := r2.grown hg4 hRp
  clear hs3 hg4
  have e1 := x2.c0
  have e2 := x2.c1
  have e3 := x2.c2
  cases t
  · go_wp2_with fail
    go_region_with ((go_at_call 52; refine (pick_any _ _ _ (0 + 20 + 2) _ hs4.drew (by omega) (by omega)).mono ?_; rintro e w4 ⟨v, rfl, v0, v1, hs5, hg5⟩; have y0 := x2.drew.grown hg5 hXp; have y1 := y0.c0; have y2 := y0.c1; have y3 := y0.c2; have z0 := r2.drew.grown hg5 hRp; have z1 := z0.c0; have z2 := z0.c1; have z3 := z0.c2; have z4 := z0.z0; have z5 := z0.z1; have z6 := z0.z2))
    all_goals
      rw [IntWalk.i64_in (5 + v) (by omega)]
      clear y1 y2 y3 z1 z2 z3 z4 z5 z6 e1 e2 e3
      have hB4 := hs4.below hB hp' (grownD hg5)
      have r5 := ((z0.set0 f).set1 b).set2 s
      have q1 := r5.c0
      have q2 := r5.c1
      have q3 := r5.c2
      go_wp2_with fail
      refine bodyPost_ret (v := .tuple #[.agg #[.int .i64 f, .int .i64 b, .int .i64 s], .int .i64 _]) (by simp [results, Try.results41, go_sem, q1, q2, q3]; try rfl) rfl ?_
      exact ⟨_, _, _, _, rfl, by omega, by omega, ((hB4.setCell (Nat.le_refl _) _).setCell (Nat.le_refl _) _).setCell (Nat.le_refl _) _⟩
  · go_wp2_with fail
    have hs4' := hs4.drew.alloc (.cells (List.map (Value.int .i64) [-1, 4, 5, 50, 51]).toArray 2)
    have hltp := hs4.lt
    have hxl := x2.lt
    have x3 := x2.drew.alloc (.cells (List.map (Value.int .i64) [-1, 4, 5, 50, 51]).toArray 2)
    have e4 := x3.c0
    have e5 := x3.c1
    have e6 := x3.c2
    go_region_with ((go_at_call 54; refine (among_any _ _ _ [-1, 4, 5, 50, 51] _ _ _ _ hs4' (by omega) (ints_new _ _ [-1, 4, 5, 50, 51]) (by simp) (by simp) (by simp [blk]; omega)).mono ?_; rintro e w4 ⟨v, rfl, hm, hs5, hg5'⟩; have hg5 : w3.drew.grownBy w4 (some p) := World.grownBy.trans (World.grownBy_alloc _ _ _) hg5'; have y0 := x2.drew.grown hg5 hXp; have y1 := y0.c0; have y2 := y0.c1; have y3 := y0.c2; have z0 := r2.drew.grown hg5 hRp; have z1 := z0.c0; have z2 := z0.c1; have z3 := z0.c2; have z4 := z0.z0; have z5 := z0.z1; have z6 := z0.z2))
    all_goals
      clear e4 e5 e6
      have v0 : -1 ≤ v ∧ v ≤ 51 := by simp at hm; omega
      clear y1 y2 y3 z1 z2 z3 z4 z5 z6 e1 e2 e3
      have hB4 := hs4.below hB hp' (grownD hg5)
      have r5 := ((z0.set0 f).set1 b).set2 s
      have q1 := r5.c0
      have q2 := r5.c1
      have q3 := r5.c2
      go_wp2_with fail
      refine bodyPost_ret (v := .tuple #[.agg #[.int .i64 f, .int .i64 b, .int .i64 s], .int .i64 _]) (by simp [results, Try.results41, go_sem, q1, q2, q3]; try rfl) rfl ?_
      exact ⟨_, _, _, _, rfl, by omega, by omega, ((hB4.setCell (Nat.le_refl _) _).setCell (Nat.le_refl _) _).setCell (Nat.le_refl _) _⟩
end Go.Proofs.Ytgjjmgneekjapaa
