/- The draws of FnSeats. -/
import Derived.Test.YtgjjmgneekjapaaDoorSeaD
namespace Go.Proofs.YtgjjmgneekjapaaDoor
open Go.RowKit
set_option linter.unusedVariables false
set_option linter.unusedSimpArgs false

def DrewS (w : World) (e : Ending) (w' : World) : Prop := ∃ f b s : Int, e = .returned (.agg #[.int .i64 f, .int .i64 b, .int .i64 s]) ∧ Below w.heap.size w w'
def DrewS1 (w : World) (e : Ending) (w' : World) : Prop := ∃ f b s a : Int, e = .returned (.tuple #[.agg #[.int .i64 f, .int .i64 b, .int .i64 s], .int .i64 a]) ∧ Below w.heap.size w w'
set_option maxHeartbeats 2000000 in
theorem drawStrandsAt_any (A : Option Addr) (n c : Nat) (w : World) (h : Bytes w w.heap.size A n) : Calls Tryd.prog 14 #[.slice A n c] w (DrewS1 w) := by
  go_enter Tryd.func14, Tryd.ntmps14
  go_wp2_with fail
  have r0 := B3.new w 0 0 0 25
  have hB0 : Below w.heap.size w (w.alloc (.cells #[.int .i64 0, .int .i64 0, .int .i64 0] 25)) := (Below.refl _ _).alloc (Nat.le_refl _) _
  refine (l00From_any _ _ _ w.heap.size _ (h.keep hB0) (by simp)).mono ?_
  rintro e w1 ⟨rfl, hs1, hb1⟩
  have hB := belowT hb1 hB0
  have r1 := r0.keep hb1
  have hpsz : w.heap.size < (w.alloc (.cells #[.int .i64 0, .int .i64 0, .int .i64 0] 25)).heap.size := by simp
  generalize hp : (w.alloc (.cells #[.int .i64 0, .int .i64 0, .int .i64 0] 25)).heap.size = p at *
  have hp' : w.heap.size ≤ p := by omega
  have hRp : w.heap.size ≠ p := by omega
  clear hp r0 hB0 hb1
  go_wp2_with fail
  refine (l15Draw_any _ _ _ _ hs1 (by omega)).mono ?_
  rintro e w2 ⟨f, b, s, rfl, hs2, hg2⟩
  replace hB := hs1.below hB hp' hg2
  replace r1 := r1.grown hg2 hRp
  clear hs1 hg2
  have hps := hs2.lt
  go_wp2_with fail
  have x2 := B3.new w2 f b s 25
  have hs3 := hs2.alloc (.cells #[.int .i64 f, .int .i64 b, .int .i64 s] 25)
  have r2 := r1.alloc (.cells #[.int .i64 f, .int .i64 b, .int .i64 s] 25)
  replace hB := hB.alloc hB.size (.cells #[.int .i64 f, .int .i64 b, .int .i64 s] 25)
  have hlt := r1.lt
  generalize w2.heap.size = X at *
  generalize w2.alloc (.cells #[.int .i64 f, .int .i64 b, .int .i64 s] 25) = wa at *
  have hXp : X ≠ p := by omega
  clear r1 hs2
  have e1 := x2.c0
  have e2 := x2.c1
  have e3 := x2.c2
  go_region_with ((go_at_call 37; refine (pick_any _ _ _ _ _ hs3.drew (by omega) (by omega)).mono ?_; rintro e w4 ⟨v, rfl, v0, v1, hs5, hg5⟩; have wv : IntKind.i64.wrap (v - 1) = v - 1 := IntWalk.i64_in _ (by omega); have y0 := x2.drew.grown hg5 hXp; have y1 := y0.c0; have y2 := y0.c1; have y3 := y0.c2; have z0 := r2.drew.grown hg5 hRp; have z1 := z0.c0; have z2 := z0.c1; have z3 := z0.c2; have z4 := z0.z0; have z5 := z0.z1; have z6 := z0.z2))
  all_goals
    · · skip
        clear y1 y2 y3 z1 z2 z3 z4 z5 z6 e1 e2 e3
        have hB4 := hs3.below hB hp' (grownD hg5)
        have r5 := ((z0.set0 f).set1 b).set2 s
        have q1 := r5.c0
        have q2 := r5.c1
        have q3 := r5.c2
        go_wp2_with fail
        refine bodyPost_ret (v := .tuple #[.agg #[.int .i64 f, .int .i64 b, .int .i64 s], .int .i64 (v - 1)]) (by simp [results, Tryd.results14, go_sem, q1, q2, q3]; try rfl) rfl ?_
        exact ⟨_, _, _, _, rfl, ((hB4.setCell (Nat.le_refl _) _).setCell (Nat.le_refl _) _).setCell (Nat.le_refl _) _⟩
set_option maxHeartbeats 2000000 in
theorem drawHolesOf_any (A : Option Addr) (n c : Nat) (w : World) (h : Bytes w w.heap.size A n) : Calls Tryd.prog 17 #[.slice A n c] w (DrewS w) := by
  go_enter Tryd.func17, Tryd.ntmps17
  go_wp2_with fail
  have r0 := B3.new w 0 0 0 25
  have hB0 : Below w.heap.size w (w.alloc (.cells #[.int .i64 0, .int .i64 0, .int .i64 0] 25)) := (Below.refl _ _).alloc (Nat.le_refl _) _
  refine (l00From_any _ _ _ w.heap.size _ (h.keep hB0) (by simp)).mono ?_
  rintro e w1 ⟨rfl, hs1, hb1⟩
  have hB := belowT hb1 hB0
  have r1 := r0.keep hb1
  have hpsz : w.heap.size < (w.alloc (.cells #[.int .i64 0, .int .i64 0, .int .i64 0] 25)).heap.size := by simp
  generalize hp : (w.alloc (.cells #[.int .i64 0, .int .i64 0, .int .i64 0] 25)).heap.size = p at *
  have hp' : w.heap.size ≤ p := by omega
  have hRp : w.heap.size ≠ p := by omega
  clear hp r0 hB0 hb1
  go_wp2_with fail
  refine (l15Draw_any _ _ _ _ hs1 (by omega)).mono ?_
  rintro e w2 ⟨f, b, s, rfl, hs2, hg2⟩
  replace hB := hs1.below hB hp' hg2
  have z0 := r1.grown hg2 hRp
  have d1 := z0.c0
  have d2 := z0.c1
  have d3 := z0.c2
  have d4 := z0.z0
  have d5 := z0.z1
  have d6 := z0.z2
  go_wp2_with fail
  have r5 := ((z0.set0 f).set1 b).set2 s
  have q1 := r5.c0
  have q2 := r5.c1
  have q3 := r5.c2
  refine bodyPost_ret (v := .agg #[.int .i64 f, .int .i64 b, .int .i64 s]) (by simp [results, Tryd.results17, go_sem, q1, q2, q3]; try rfl) rfl ?_
  exact ⟨_, _, _, rfl, ((hB.setCell (Nat.le_refl _) _).setCell (Nat.le_refl _) _).setCell (Nat.le_refl _) _⟩
set_option maxHeartbeats 4000000 in
theorem l15Step_any (A : Option Addr) (n c : Nat) (w : World) (h : Bytes w w.heap.size A n) : Calls Tryd.prog 30 #[.slice A n c] w (DrewS1 w) := by
  go_enter Tryd.func30, Tryd.ntmps30
  go_wp2_with fail
  have r0 := B3.new w 0 0 0 25
  have hB0 : Below w.heap.size w (w.alloc (.cells #[.int .i64 0, .int .i64 0, .int .i64 0] 25)) := (Below.refl _ _).alloc (Nat.le_refl _) _
  refine (l00From_any _ _ _ w.heap.size _ (h.keep hB0) (by simp)).mono ?_
  rintro e w1 ⟨rfl, hs1, hb1⟩
  have hB := belowT hb1 hB0
  have r1 := r0.keep hb1
  have hpsz : w.heap.size < (w.alloc (.cells #[.int .i64 0, .int .i64 0, .int .i64 0] 25)).heap.size := by simp
  generalize hp : (w.alloc (.cells #[.int .i64 0, .int .i64 0, .int .i64 0] 25)).heap.size = p at *
  have hp' : w.heap.size ≤ p := by omega
  have hRp : w.heap.size ≠ p := by omega
  clear hp r0 hB0 hb1
  go_wp2_with fail
  refine (l15Draw_any _ _ _ _ hs1 (by omega)).mono ?_
  rintro e w2 ⟨f, b, s, rfl, hs2, hg2⟩
  replace hB := hs1.below hB hp' hg2
  replace r1 := r1.grown hg2 hRp
  clear hs1 hg2
  have hps := hs2.lt
  go_wp2_with fail
  have x2 := B3.new w2 f b s 25
  have hs3 := hs2.alloc (.cells #[.int .i64 f, .int .i64 b, .int .i64 s] 25)
  have r2 := r1.alloc (.cells #[.int .i64 f, .int .i64 b, .int .i64 s] 25)
  replace hB := hB.alloc hB.size (.cells #[.int .i64 f, .int .i64 b, .int .i64 s] 25)
  have hlt := r1.lt
  generalize w2.heap.size = X at *
  generalize w2.alloc (.cells #[.int .i64 f, .int .i64 b, .int .i64 s] 25) = wa at *
  have hXp : X ≠ p := by omega
  clear r1 hs2
  (refine (one_any _ _ _ _ _ hs3 (by omega) (by omega)).mono ?_)
  rintro e w4 ⟨t, rfl, hs4, hg4⟩
  replace hB := hs3.below hB hp' hg4
  replace x2 := x2.grown hg4 hXp
  replace r2 := r2.grown hg4 hRp
  clear hs3 hg4
  have hlt2 := r2.lt
  have hltp := hs4.lt
  have hltx := x2.lt
  cases t
  · have e1 := x2.c0
    have e2 := x2.c1
    have e3 := x2.c2
    go_wp2_with fail
    go_region_with ((go_at_call 37; refine (pick_any _ _ _ _ _ hs4.drew (by omega) (by omega)).mono ?_; rintro e w5 ⟨v, rfl, v0, v1, hs5, hg5⟩; have wv : IntKind.i64.wrap (1 + v) = 1 + v := IntWalk.i64_in _ (by omega); have y0 := x2.drew.grown hg5 hXp; have y1 := y0.c0; have y2 := y0.c1; have y3 := y0.c2; have z0 := r2.drew.grown hg5 hRp; have z1 := z0.c0; have z2 := z0.c1; have z3 := z0.c2; have z4 := z0.z0; have z5 := z0.z1; have z6 := z0.z2))
    all_goals
      · skip
        clear y1 y2 y3 z1 z2 z3 z4 z5 z6 e1 e2 e3
        have hB4 := hs4.below hB hp' (grownD hg5)
        have r5 := ((z0.set0 f).set1 b).set2 s
        have q1 := r5.c0
        have q2 := r5.c1
        have q3 := r5.c2
        go_wp2_with fail
        refine bodyPost_ret (v := .tuple #[.agg #[.int .i64 f, .int .i64 b, .int .i64 s], .int .i64 (1 + v)]) (by simp [results, Tryd.results30, go_sem, q1, q2, q3]; try rfl) rfl ?_
        exact ⟨_, _, _, _, rfl, ((hB4.setCell (Nat.le_refl _) _).setCell (Nat.le_refl _) _).setCell (Nat.le_refl _) _⟩
  · have x3 := x2.drew.alloc (.cells (List.map (Value.int .i64) [-1, 0, 7, -9223372036854775808]).toArray 2)
    have e4 := x3.c0
    have e5 := x3.c1
    have e6 := x3.c2
    have e1 := x2.c0
    have e2 := x2.c1
    have e3 := x2.c2
    have hs9 := hs4.drew.alloc (.cells (List.map (Value.int .i64) [-1, 0, 7, -9223372036854775808]).toArray 2)
    go_wp2_with fail
    go_region_with ((go_at_call 40; refine (among_any _ _ _ [-1, 0, 7, -9223372036854775808] _ _ _ _ hs9 (by omega) (ints_new _ _ [-1, 0, 7, -9223372036854775808]) (by simp) (by simp) (by simp [blk]; omega)).mono ?_; rintro e w9 ⟨v, rfl, hm, hs5, hg5'⟩; have hg5 := World.grownBy.trans (World.grownBy_alloc _ (.cells (List.map (Value.int .i64) [-1, 0, 7, -9223372036854775808]).toArray 2) _) hg5'; have y0 := x2.drew.grown hg5 hXp; have y1 := y0.c0; have y2 := y0.c1; have y3 := y0.c2; have z0 := r2.drew.grown hg5 hRp; have z1 := z0.c0; have z2 := z0.c1; have z3 := z0.c2; have z4 := z0.z0; have z5 := z0.z1; have z6 := z0.z2))
    all_goals
      · clear hm e4 e5 e6
        clear y1 y2 y3 z1 z2 z3 z4 z5 z6 e1 e2 e3
        have hB4 := hs4.below hB hp' (grownD hg5)
        have r5 := ((z0.set0 f).set1 b).set2 s
        have q1 := r5.c0
        have q2 := r5.c1
        have q3 := r5.c2
        go_wp2_with fail
        refine bodyPost_ret (v := .tuple #[.agg #[.int .i64 f, .int .i64 b, .int .i64 s], .int .i64 v]) (by simp [results, Tryd.results30, go_sem, q1, q2, q3]; try rfl) rfl ?_
        exact ⟨_, _, _, _, rfl, ((hB4.setCell (Nat.le_refl _) _).setCell (Nat.le_refl _) _).setCell (Nat.le_refl _) _⟩
end Go.Proofs.YtgjjmgneekjapaaDoor
