/- DrawThickestCourse, DrawLengthOfCourse, DrawRodsFor. -/
import Derived.Test.YtelbedmfnmjehaaCourD3
namespace Go.Proofs.Ytelbedmfnmjehaa
open Go.RowKit
set_option linter.unusedVariables false
set_option linter.unusedSimpArgs false

def DrewL (w : World) (e : Ending) (w' : World) : Prop := ∃ C q c cs, e = .returned (.slice C q c) ∧ Recs w' C q cs ∧ q ≤ 61 ∧ q ≤ c ∧ Below w.heap.size w w'
theorem drawThickest_any (A : Option Addr) (n c : Nat) (w : World) (h : Bytes w w.heap.size A n) : Calls Try.prog 43 #[.slice A n c] w (DrewL w) := by
  go_enter Try.func43, Try.ntmps43
  go_wp2_with fail
  refine (l00From_any _ _ _ _ _ h (Nat.le_refl _)).mono ?_
  rintro e w1 ⟨rfl, hs1, hB⟩
  go_wp2_with fail
  refine (l13Draw_any _ _ _ _ hs1 (by omega)).mono ?_
  rintro e w2 ⟨C, q, c, cs, rfl, hr, hq, hc, hs2, hg2⟩
  go_wp2_with fail
  go_ret
  exact ⟨_, _, _, _, rfl, hr.recs, hq, hc, hs1.below hB (Nat.le_refl _) hg2⟩
def DrewC1 (w : World) (e : Ending) (w' : World) : Prop := ∃ f b s a : Int, e = .returned (.tuple #[.agg #[.int .i64 f, .int .i64 b, .int .i64 s], .int .i64 a]) ∧ Below w.heap.size w w'
def DrewC3 (w : World) (e : Ending) (w' : World) : Prop := ∃ f b s x y z : Int, e = .returned (.tuple #[.agg #[.int .i64 f, .int .i64 b, .int .i64 s], .int .i64 x, .int .i64 y, .int .i64 z]) ∧ Below w.heap.size w w'
set_option maxHeartbeats 4000000 in
theorem drawLengthOfCourse_any (A : Option Addr) (n c : Nat) (w : World) (h : Bytes w w.heap.size A n) : Calls Try.prog 44 #[.slice A n c] w (DrewC1 w) := by
  go_enter Try.func44, Try.ntmps44
  go_wp2_with fail
  have r0 := B3.new w 0 0 0 26
  have hB0 : Below w.heap.size w (w.alloc (.cells #[.int .i64 0, .int .i64 0, .int .i64 0] 26)) := (Below.refl _ _).alloc (Nat.le_refl _) _
  refine (l00From_any _ _ _ w.heap.size _ (h.keep hB0) (by simp)).mono ?_
  rintro e w1 ⟨rfl, hs1, hb1⟩
  have hB := belowT hb1 hB0
  have r1 := r0.keep hb1
  have hpsz : w.heap.size < (w.alloc (.cells #[.int .i64 0, .int .i64 0, .int .i64 0] 26)).heap.size := by simp
  generalize hp : (w.alloc (.cells #[.int .i64 0, .int .i64 0, .int .i64 0] 26)).heap.size = p at *
  have hp' : w.heap.size ≤ p := by omega
  have hRp : w.heap.size ≠ p := by omega
  clear hp r0 hB0 hb1
  go_wp2_with fail
  refine (l13Any_any _ _ _ _ hs1 (by omega)).mono ?_
  rintro e w2 ⟨f, b, s, rfl, hs2, hg2⟩
  replace hB := hs1.below hB hp' hg2
  replace r1 := r1.grown hg2 hRp
  clear hs1 hg2
  have hps := hs2.lt
  go_wp2_with fail
  have x2 := B3.new w2 f b s 26
  have hs3 := hs2.alloc (.cells #[.int .i64 f, .int .i64 b, .int .i64 s] 26)
  have r2 := r1.alloc (.cells #[.int .i64 f, .int .i64 b, .int .i64 s] 26)
  replace hB := hB.alloc hB.size (.cells #[.int .i64 f, .int .i64 b, .int .i64 s] 26)
  have hlt := r1.lt
  generalize w2.heap.size = X at *
  generalize w2.alloc (.cells #[.int .i64 f, .int .i64 b, .int .i64 s] 26) = wa at *
  have hXp : X ≠ p := by omega
  clear r1 hs2
  have e1 := x2.c0
  have e2 := x2.c1
  have e3 := x2.c2
  go_region_with ((go_at_call 74; refine (l13DrawStakes_any _ _ (0 + 20) _ hs3.drew (by omega)).mono ?_; rintro e w4 ⟨v, rfl, v0, v1, hs5, hg5⟩; have y0 := x2.drew.grown hg5 hXp; have y1 := y0.c0; have y2 := y0.c1; have y3 := y0.c2; have z0 := r2.drew.grown hg5 hRp; have z1 := z0.c0; have z2 := z0.c1; have z3 := z0.c2; have z4 := z0.z0; have z5 := z0.z1; have z6 := z0.z2))
  all_goals
    · · skip
        clear y1 y2 y3 z1 z2 z3 z4 z5 z6 e1 e2 e3
        have hB4 := hs3.below hB hp' (grownD hg5)
        have r5 := ((z0.set0 f).set1 b).set2 s
        have q1 := r5.c0
        have q2 := r5.c1
        have q3 := r5.c2
        go_wp2_with fail
        refine bodyPost_ret (v := .tuple #[.agg #[.int .i64 f, .int .i64 b, .int .i64 s], .int .i64 _]) (by simp [results, Try.results44, go_sem, q1, q2, q3]; try rfl) rfl ?_
        exact ⟨_, _, _, _, rfl, ((hB4.setCell (Nat.le_refl _) _).setCell (Nat.le_refl _) _).setCell (Nat.le_refl _) _⟩
end Go.Proofs.Ytelbedmfnmjehaa
