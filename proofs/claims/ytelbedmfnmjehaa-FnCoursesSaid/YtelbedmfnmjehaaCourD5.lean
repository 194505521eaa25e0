/- DrawRodsFor, DrawCoursesFor. -/
import Derived.Test.YtelbedmfnmjehaaCourD4
namespace Go.Proofs.Ytelbedmfnmjehaa
open Go.RowKit
set_option linter.unusedVariables false
set_option linter.unusedSimpArgs false

set_option maxHeartbeats 4000000 in
theorem drawRodsFor_any (A : Option Addr) (n c : Nat) (w : World) (h : Bytes w w.heap.size A n) : Calls Try.prog 42 #[.slice A n c] w (DrewC3 w) := by
  go_enter Try.func42, Try.ntmps42
  go_wp2_with fail
  have r0 := B3.new w 0 0 0 26
  have hB0 : Below w.heap.size w (w.alloc (.cells #[.int .i64 0, .int .i64 0, .int .i64 0] 26)) := (Below.refl _ _).alloc (Nat.le_refl _) _
  refine (l00From_any _ _ _ w.heap.size _ (h.keep hB0) (by simp)).mono ?_
  rintro e w1 ⟨rfl, hs1, hb1⟩
  have hB := belowT hb1 hB0
  have r1 := r0.keep hb1
  have hpsz : w.heap.size < (w.alloc (.cells #[.int .i64 0, .int .i64 0, .int .i64 0] 26)).heap.size := by simp
  generalize hp : (w.alloc (.cells #[.int .i64 0, .int .i64 0, .int .i64 0] 26)).heap.size = p at *
  have hp' : w.heap.size ≤ p := by omega
  have hRp : w.heap.size ≠ p := by omega
  clear hp r0 hB0 hb1
  go_wp2_with fail
  refine (l13Any_any _ _ _ _ hs1 (by omega)).mono ?_
  rintro e w2 ⟨f, b, s, rfl, hs2, hg2⟩
  replace hB := hs1.below hB hp' hg2
  replace r1 := r1.grown hg2 hRp
  clear hs1 hg2
  have hps := hs2.lt
  go_wp2_with fail
  have x2 := B3.new w2 f b s 26
  have hs3 := hs2.alloc (.cells #[.int .i64 f, .int .i64 b, .int .i64 s] 26)
  have r2 := r1.alloc (.cells #[.int .i64 f, .int .i64 b, .int .i64 s] 26)
  replace hB := hB.alloc hB.size (.cells #[.int .i64 f, .int .i64 b, .int .i64 s] 26)
  have hlt := r1.lt
  generalize w2.heap.size = X at *
  generalize w2.alloc (.cells #[.int .i64 f, .int .i64 b, .int .i64 s] 26) = wa at *
  have hXp : X ≠ p := by omega
  clear r1 hs2
  refine (l13DrawStakes_any _ _ _ _ hs3 (by omega)).mono ?_
  rintro e w3 ⟨st, rfl, st0, st1, hs4, hg4⟩
  replace hB := hs3.below hB hp' hg4
  replace x2 := x2.grown hg4 hXp
  replace r2 := r2.grown hg4 hRp
  clear hs3 hg4
  go_wp2_with fail
  (refine (pick_any _ _ _ _ _ hs4 (by omega) (by omega)).mono ?_)
  rintro e w4 ⟨r, rfl, rr0, rr1, hs5, hg5⟩
  replace hB := hs4.below hB hp' hg5
  replace x2 := x2.grown hg5 hXp
  replace r2 := r2.grown hg5 hRp
  clear hs4 hg5
  go_wp2_with fail
  (refine (one_any _ _ _ _ _ hs5 (by omega) (by omega)).mono ?_)
  rintro e w5 ⟨t, rfl, hs6, hg6⟩
  replace hB := hs5.below hB hp' hg6
  replace x2 := x2.grown hg6 hXp
  replace r2 := r2.grown hg6 hRp
  clear hs5 hg6
  cases t
  · generalize hrd : 600 + 100 * r = rd
    have rd0 : -1 ≤ rd ∧ rd ≤ 4000 := by omega
    obtain ⟨rd0, rd1⟩ := rd0
    replace hs6 := hs6.mono (m := 0 + 20 + 4 + 2 + 2 + 2) (by omega)
    clear hrd rr0 rr1
    go_wp2_with fail
    (refine (one_any _ _ _ _ _ hs6 (by omega) (by omega)).mono ?_)
    rintro e w6 ⟨t, rfl, hs8, hg8⟩
    replace hB := hs6.below hB hp' hg8
    replace x2 := x2.grown hg8 hXp
    replace r2 := r2.grown hg8 hRp
    clear hs6 hg8
    cases t
    · have e1 := x2.c0
      have e2 := x2.c1
      have e3 := x2.c2
      go_wp2_with fail
      go_region_with ((go_at_call 75; refine (pick_any _ _ _ _ _ hs8.drew (by omega) (by omega)).mono ?_; rintro e w9 ⟨v, rfl, v0, v1, hs5, hg5⟩; have y0 := x2.drew.grown hg5 hXp; have y1 := y0.c0; have y2 := y0.c1; have y3 := y0.c2; have z0 := r2.drew.grown hg5 hRp; have z1 := z0.c0; have z2 := z0.c1; have z3 := z0.c2; have z4 := z0.z0; have z5 := z0.z1; have z6 := z0.z2))
      all_goals
        clear v0 v1
        clear y1 y2 y3 z1 z2 z3 z4 z5 z6 e1 e2 e3
        have hB4 := hs8.below hB hp' (grownD hg5)
        have r5 := ((z0.set0 f).set1 b).set2 s
        have q1 := r5.c0
        have q2 := r5.c1
        have q3 := r5.c2
        go_wp2_with fail
        refine bodyPost_ret (v := .tuple #[.agg #[.int .i64 f, .int .i64 b, .int .i64 s], .int .i64 st, .int .i64 rd, .int .i64 v]) (by simp [results, Try.results42, go_sem, q1, q2, q3]; try rfl) rfl ?_
        exact ⟨_, _, _, _, _, _, rfl, ((hB4.setCell (Nat.le_refl _) _).setCell (Nat.le_refl _) _).setCell (Nat.le_refl _) _⟩
    · have e1 := x2.c0
      have e2 := x2.c1
      have e3 := x2.c2
      have hxl := x2.lt
      have wr1 : IntKind.i64.wrap (rd - 1) = rd - 1 := IntWalk.i64_in _ (by omega)
      have x3 := x2.drew.alloc (.cells (List.map (Value.int .i64) [-1, 0, rd - 1, rd, 3000, 3001]).toArray 2)
      have e4 := x3.c0
      have e5 := x3.c1
      have e6 := x3.c2
      have hltp := hs8.lt
      have hs9 := hs8.drew.alloc (.cells (List.map (Value.int .i64) [-1, 0, rd - 1, rd, 3000, 3001]).toArray 2)
      go_wp2_with fail
      go_region_with ((go_at_call 77; refine (among_any _ _ _ [-1, 0, rd - 1, rd, 3000, 3001] _ _ _ _ hs9 (by omega) (ints_new _ _ [-1, 0, rd - 1, rd, 3000, 3001]) (by simp) (by simp) (by simp [blk]; omega)).mono ?_; rintro e w9 ⟨v, rfl, hm, hs5, hg5'⟩; have hg5 := World.grownBy.trans (World.grownBy_alloc _ (.cells (List.map (Value.int .i64) [-1, 0, rd - 1, rd, 3000, 3001]).toArray 2) _) hg5'; have y0 := x2.drew.grown hg5 hXp; have y1 := y0.c0; have y2 := y0.c1; have y3 := y0.c2; have z0 := r2.drew.grown hg5 hRp; have z1 := z0.c0; have z2 := z0.c1; have z3 := z0.c2; have z4 := z0.z0; have z5 := z0.z1; have z6 := z0.z2))
      all_goals
        clear hm e4 e5 e6
        clear y1 y2 y3 z1 z2 z3 z4 z5 z6 e1 e2 e3
        have hB4 := hs8.below hB hp' (grownD hg5)
        have r5 := ((z0.set0 f).set1 b).set2 s
        have q1 := r5.c0
        have q2 := r5.c1
        have q3 := r5.c2
        go_wp2_with fail
        refine bodyPost_ret (v := .tuple #[.agg #[.int .i64 f, .int .i64 b, .int .i64 s], .int .i64 st, .int .i64 rd, .int .i64 v]) (by simp [results, Try.results42, go_sem, q1, q2, q3]; try rfl) rfl ?_
        exact ⟨_, _, _, _, _, _, rfl, ((hB4.setCell (Nat.le_refl _) _).setCell (Nat.le_refl _) _).setCell (Nat.le_refl _) _⟩
  · go_wp2_with fail
    (refine (among_any _ _ _ [-1, 99, 100, 3000, 3001] _ _ _ _ (Src.alloc hs6 _) (by omega) (ints_new _ _ [-1, 99, 100, 3000, 3001]) (by simp) (by simp) (by have := Src.lt hs6; simp [blk]; omega)).mono ?_)
    rintro e w7 ⟨rd, rfl, hm, hs7, hg7⟩
    have rd0 : -1 ≤ rd ∧ rd ≤ 4000 := by simp at hm; omega
    obtain ⟨rd0, rd1⟩ := rd0
    replace hB := (hs6.alloc _).below (hB.alloc hB.size _) hp' hg7
    replace x2 := (x2.alloc (.cells (List.map (Value.int .i64) [-1, 99, 100, 3000, 3001]).toArray 2)).grown hg7 hXp
    replace r2 := (r2.alloc (.cells (List.map (Value.int .i64) [-1, 99, 100, 3000, 3001]).toArray 2)).grown hg7 hRp
    clear hm hg7
    replace hs6 := hs7
    clear hs7 rr0 rr1
    go_wp2_with fail
    (refine (one_any _ _ _ _ _ hs6 (by omega) (by omega)).mono ?_)
    rintro e w6 ⟨t, rfl, hs8, hg8⟩
    replace hB := hs6.below hB hp' hg8
    replace x2 := x2.grown hg8 hXp
    replace r2 := r2.grown hg8 hRp
    clear hs6 hg8
    cases t
    · have e1 := x2.c0
      have e2 := x2.c1
      have e3 := x2.c2
      go_wp2_with fail
      go_region_with ((go_at_call 75; refine (pick_any _ _ _ _ _ hs8.drew (by omega) (by omega)).mono ?_; rintro e w9 ⟨v, rfl, v0, v1, hs5, hg5⟩; have y0 := x2.drew.grown hg5 hXp; have y1 := y0.c0; have y2 := y0.c1; have y3 := y0.c2; have z0 := r2.drew.grown hg5 hRp; have z1 := z0.c0; have z2 := z0.c1; have z3 := z0.c2; have z4 := z0.z0; have z5 := z0.z1; have z6 := z0.z2))
      all_goals
        clear v0 v1
        clear y1 y2 y3 z1 z2 z3 z4 z5 z6 e1 e2 e3
        have hB4 := hs8.below hB hp' (grownD hg5)
        have r5 := ((z0.set0 f).set1 b).set2 s
        have q1 := r5.c0
        have q2 := r5.c1
        have q3 := r5.c2
        go_wp2_with fail
        refine bodyPost_ret (v := .tuple #[.agg #[.int .i64 f, .int .i64 b, .int .i64 s], .int .i64 st, .int .i64 rd, .int .i64 v]) (by simp [results, Try.results42, go_sem, q1, q2, q3]; try rfl) rfl ?_
        exact ⟨_, _, _, _, _, _, rfl, ((hB4.setCell (Nat.le_refl _) _).setCell (Nat.le_refl _) _).setCell (Nat.le_refl _) _⟩
    · have e1 := x2.c0
      have e2 := x2.c1
      have e3 := x2.c2
      have hxl := x2.lt
      have wr1 : IntKind.i64.wrap (rd - 1) = rd - 1 := IntWalk.i64_in _ (by omega)
      have x3 := x2.drew.alloc (.cells (List.map (Value.int .i64) [-1, 0, rd - 1, rd, 3000, 3001]).toArray 2)
      have e4 := x3.c0
      have e5 := x3.c1
      have e6 := x3.c2
      have hltp := hs8.lt
      have hs9 := hs8.drew.alloc (.cells (List.map (Value.int .i64) [-1, 0, rd - 1, rd, 3000, 3001]).toArray 2)
      go_wp2_with fail
      go_region_with ((go_at_call 77; refine (among_any _ _ _ [-1, 0, rd - 1, rd, 3000, 3001] _ _ _ _ hs9 (by omega) (ints_new _ _ [-1, 0, rd - 1, rd, 3000, 3001]) (by simp) (by simp) (by simp [blk]; omega)).mono ?_; rintro e w9 ⟨v, rfl, hm, hs5, hg5'⟩; have hg5 := World.grownBy.trans (World.grownBy_alloc _ (.cells (List.map (Value.int .i64) [-1, 0, rd - 1, rd, 3000, 3001]).toArray 2) _) hg5'; have y0 := x2.drew.grown hg5 hXp; have y1 := y0.c0; have y2 := y0.c1; have y3 := y0.c2; have z0 := r2.drew.grown hg5 hRp; have z1 := z0.c0; have z2 := z0.c1; have z3 := z0.c2; have z4 := z0.z0; have z5 := z0.z1; have z6 := z0.z2))
      all_goals
        clear hm e4 e5 e6
        clear y1 y2 y3 z1 z2 z3 z4 z5 z6 e1 e2 e3
        have hB4 := hs8.below hB hp' (grownD hg5)
        have r5 := ((z0.set0 f).set1 b).set2 s
        have q1 := r5.c0
        have q2 := r5.c1
        have q3 := r5.c2
        go_wp2_with fail
        refine bodyPost_ret (v := .tuple #[.agg #[.int .i64 f, .int .i64 b, .int .i64 s], .int .i64 st, .int .i64 rd, .int .i64 v]) (by simp [results, Try.results42, go_sem, q1, q2, q3]; try rfl) rfl ?_
        exact ⟨_, _, _, _, _, _, rfl, ((hB4.setCell (Nat.le_refl _) _).setCell (Nat.le_refl _) _).setCell (Nat.le_refl _) _⟩

def DrewC2 (w : World) (e : Ending) (w' : World) : Prop := ∃ f b s x y : Int, e = .returned (.tuple #[.agg #[.int .i64 f, .int .i64 b, .int .i64 s], .int .i64 x, .int .i64 y]) ∧ Below w.heap.size w w'
set_option maxHeartbeats 4000000 in
theorem drawCoursesFor_any (A : Option Addr) (n c : Nat) (w : World) (h : Bytes w w.heap.size A n) : Calls Try.prog 47 #[.slice A n c] w (DrewC2 w) := by
  go_enter Try.func47, Try.ntmps47
  go_wp2_with fail
  have r0 := B3.new w 0 0 0 26
  have hB0 : Below w.heap.size w (w.alloc (.cells #[.int .i64 0, .int .i64 0, .int .i64 0] 26)) := (Below.refl _ _).alloc (Nat.le_refl _) _
  refine (l00From_any _ _ _ w.heap.size _ (h.keep hB0) (by simp)).mono ?_
  rintro e w1 ⟨rfl, hs1, hb1⟩
  have hB := belowT hb1 hB0
  have r1 := r0.keep hb1
  have hpsz : w.heap.size < (w.alloc (.cells #[.int .i64 0, .int .i64 0, .int .i64 0] 26)).heap.size := by simp
  generalize hp : (w.alloc (.cells #[.int .i64 0, .int .i64 0, .int .i64 0] 26)).heap.size = p at *
  have hp' : w.heap.size ≤ p := by omega
  have hRp : w.heap.size ≠ p := by omega
  clear hp r0 hB0 hb1
  go_wp2_with fail
  refine (l13Any_any _ _ _ _ hs1 (by omega)).mono ?_
  rintro e w2 ⟨f, b, s, rfl, hs2, hg2⟩
  replace hB := hs1.below hB hp' hg2
  replace r1 := r1.grown hg2 hRp
  clear hs1 hg2
  have hps := hs2.lt
  go_wp2_with fail
  have x2 := B3.new w2 f b s 26
  have hs3 := hs2.alloc (.cells #[.int .i64 f, .int .i64 b, .int .i64 s] 26)
  have r2 := r1.alloc (.cells #[.int .i64 f, .int .i64 b, .int .i64 s] 26)
  replace hB := hB.alloc hB.size (.cells #[.int .i64 f, .int .i64 b, .int .i64 s] 26)
  have hlt := r1.lt
  generalize w2.heap.size = X at *
  generalize w2.alloc (.cells #[.int .i64 f, .int .i64 b, .int .i64 s] 26) = wa at *
  have hXp : X ≠ p := by omega
  clear r1 hs2
  (refine (pick_any _ _ _ _ _ hs3 (by omega) (by omega)).mono ?_)
  rintro e w4 ⟨r, rfl, rr0, rr1, hs5, hg5⟩
  replace hB := hs3.below hB hp' hg5
  replace x2 := x2.grown hg5 hXp
  replace r2 := r2.grown hg5 hRp
  clear hs3 hg5
  go_wp2_with fail
  (refine (one_any _ _ _ _ _ hs5 (by omega) (by omega)).mono ?_)
  rintro e w5 ⟨t, rfl, hs6, hg6⟩
  replace hB := hs5.below hB hp' hg6
  replace x2 := x2.grown hg6 hXp
  replace r2 := r2.grown hg6 hRp
  clear hs5 hg6
  cases t
  · have ht : (0 + 20 + 2 + 2 : Nat) ≤ 0 + 20 + 2 + 2 + 2 := by omega
    replace hs6 := hs6.mono ht
    have e1 := x2.c0
    have e2 := x2.c1
    have e3 := x2.c2
    go_wp2_with fail
    go_region_with ((go_at_call 80; refine (l13DrawPacked_any _ _ _ _ hs6.drew (by omega)).mono ?_; rintro e w9 ⟨v, rfl, v0, v1, hs5, hg5⟩; have y0 := x2.drew.grown hg5 hXp; have y1 := y0.c0; have y2 := y0.c1; have y3 := y0.c2; have z0 := r2.drew.grown hg5 hRp; have z1 := z0.c0; have z2 := z0.c1; have z3 := z0.c2; have z4 := z0.z0; have z5 := z0.z1; have z6 := z0.z2))
    all_goals
      · clear v0 v1
        clear y1 y2 y3 z1 z2 z3 z4 z5 z6 e1 e2 e3
        have hB4 := hs6.below hB hp' (grownD hg5)
        have r5 := ((z0.set0 f).set1 b).set2 s
        have q1 := r5.c0
        have q2 := r5.c1
        have q3 := r5.c2
        go_wp2_with fail
        refine bodyPost_ret (v := .tuple #[.agg #[.int .i64 f, .int .i64 b, .int .i64 s], .int .i64 r, .int .i64 v]) (by simp [results, Try.results47, go_sem, q1, q2, q3]; try rfl) rfl ?_
        exact ⟨_, _, _, _, _, rfl, ((hB4.setCell (Nat.le_refl _) _).setCell (Nat.le_refl _) _).setCell (Nat.le_refl _) _⟩
  · go_wp2_with fail
    (refine (among_any _ _ _ [-1, 0, 2000, 2001] _ _ _ _ (Src.alloc hs6 _) (by omega) (ints_new _ _ [-1, 0, 2000, 2001]) (by simp) (by simp) (by have := Src.lt hs6; simp [blk]; omega)).mono ?_)
    rintro e w7 ⟨rd, rfl, hm, hs7, hg7⟩
    replace hB := (hs6.alloc _).below (hB.alloc hB.size _) hp' hg7
    replace x2 := (x2.alloc (.cells (List.map (Value.int .i64) [-1, 0, 2000, 2001]).toArray 2)).grown hg7 hXp
    replace r2 := (r2.alloc (.cells (List.map (Value.int .i64) [-1, 0, 2000, 2001]).toArray 2)).grown hg7 hRp
    clear hm hg7 hs6 rr0 rr1
    have hs6 := hs7
    clear hs7
    have e1 := x2.c0
    have e2 := x2.c1
    have e3 := x2.c2
    go_wp2_with fail
    go_region_with ((go_at_call 80; refine (l13DrawPacked_any _ _ _ _ hs6.drew (by omega)).mono ?_; rintro e w9 ⟨v, rfl, v0, v1, hs5, hg5⟩; have y0 := x2.drew.grown hg5 hXp; have y1 := y0.c0; have y2 := y0.c1; have y3 := y0.c2; have z0 := r2.drew.grown hg5 hRp; have z1 := z0.c0; have z2 := z0.c1; have z3 := z0.c2; have z4 := z0.z0; have z5 := z0.z1; have z6 := z0.z2))
    all_goals
      · clear v0 v1
        clear y1 y2 y3 z1 z2 z3 z4 z5 z6 e1 e2 e3
        have hB4 := hs6.below hB hp' (grownD hg5)
        have r5 := ((z0.set0 f).set1 b).set2 s
        have q1 := r5.c0
        have q2 := r5.c1
        have q3 := r5.c2
        go_wp2_with fail
        refine bodyPost_ret (v := .tuple #[.agg #[.int .i64 f, .int .i64 b, .int .i64 s], .int .i64 rd, .int .i64 v]) (by simp [results, Try.results47, go_sem, q1, q2, q3]; try rfl) rfl ?_
        exact ⟨_, _, _, _, _, rfl, ((hB4.setCell (Nat.le_refl _) _).setCell (Nat.le_refl _) _).setCell (Nat.le_refl _) _⟩
def DrewL1 (w : World) (e : Ending) (w' : World) : Prop := ∃ C q c cs x, e = .returned (.tuple #[.slice C q c, .int .i64 x]) ∧ Recs w' C q cs ∧ q ≤ 61 ∧ q ≤ c ∧ Below w.heap.size w w'
theorem drawLengthOfAll_any (A : Option Addr) (n c : Nat) (w : World) (h : Bytes w w.heap.size A n) : Calls Try.prog 45 #[.slice A n c] w (DrewL1 w) := by
  go_enter Try.func45, Try.ntmps45
  go_wp2_with fail
  refine (l00From_any _ _ _ _ _ h (Nat.le_refl _)).mono ?_
  rintro e w1 ⟨rfl, hs1, hB⟩
  go_wp2_with fail
  refine (l13Draw_any _ _ _ _ hs1 (by omega)).mono ?_
  rintro e w2 ⟨C, q, c, cs, rfl, hr, hq, hc, hs2, hg2⟩
  have hne : ∀ g, blk C = some g → g ≠ w.heap.size := fun g hg e => by have h1 := (hr.lt' g hg).1; have h2 := hs1.lt; omega
  have hB2 := hs1.below hB (Nat.le_refl _) hg2
  go_wp2_with fail
  refine (l13DrawStakes_any _ _ _ _ hs2 (by omega)).mono ?_
  rintro e w3 ⟨v, rfl, v0, v1, hs3, hg3⟩
  replace hr := kept_p hr hg3 hne
  go_wp2_with fail
  go_ret2
  exact ⟨_, _, _, _, _, rfl, hr.recs, hq, hc, hs2.below hB2 (Nat.le_refl _) hg3⟩
theorem drawHeightOfCourses_any (A : Option Addr) (n c : Nat) (w : World) (h : Bytes w w.heap.size A n) : Calls Try.prog 79 #[.slice A n c] w (DrewL1 w) := by
  go_enter Try.func79, Try.ntmps79
  go_wp2_with fail
  refine (l00From_any _ _ _ _ _ h (Nat.le_refl _)).mono ?_
  rintro e w1 ⟨rfl, hs1, hB⟩
  go_wp2_with fail
  refine (l13Draw_any _ _ _ _ hs1 (by omega)).mono ?_
  rintro e w2 ⟨C, q, c, cs, rfl, hr, hq, hc, hs2, hg2⟩
  have hne : ∀ g, blk C = some g → g ≠ w.heap.size := fun g hg e => by have h1 := (hr.lt' g hg).1; have h2 := hs1.lt; omega
  have hB2 := hs1.below hB (Nat.le_refl _) hg2
  go_wp2_with fail
  refine (l13DrawPacked_any _ _ _ _ hs2 (by omega)).mono ?_
  rintro e w3 ⟨v, rfl, v0, v1, hs3, hg3⟩
  replace hr := kept_p hr hg3 hne
  go_wp2_with fail
  go_ret2
  exact ⟨_, _, _, _, _, rfl, hr.recs, hq, hc, hs2.below hB2 (Nat.le_refl _) hg3⟩
theorem drawHeightAt_any (A : Option Addr) (n c : Nat) (w : World) (h : Bytes w w.heap.size A n) : Calls Try.prog 46 #[.slice A n c] w (DrewL1 w) := by
  go_enter Try.func46, Try.ntmps46
  go_wp2_with fail
  refine (drawHeightOfCourses_any _ _ _ _ h).mono ?_
  rintro e w2 ⟨C, q, c, cs, x, rfl, hr⟩
  go_wp2_with fail
  go_ret2
  exact ⟨_, _, _, _, _, rfl, hr⟩
end Go.Proofs.Ytelbedmfnmjehaa
