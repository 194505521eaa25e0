/- The draws of rounds: lists. -/
import Derived.Test.YtelbedmfnmjehaaCourD
namespace Go.Proofs.Ytelbedmfnmjehaa
open Go.RowKit
set_option linter.unusedVariables false
set_option linter.unusedSimpArgs false

set_option maxHeartbeats 1000000 in
theorem l13Any_any (base p k : Nat) (w : World) (h : Src w base p k) (hk : k ≤ 700000000000) : Calls Try.prog 73 #[.pointer (some ⟨p, 0, none⟩)] w (DrawnC base p (k + 20) w) := by
  have hlo := h.lo
  have hlt := h.lt
  go_enter Try.func73, Try.ntmps73
  go_wp2_with fail
  have r0 := B3.new w 0 0 0 26
  have hs0 := h.alloc (.cells #[.int .i64 0, .int .i64 0, .int .i64 0] 26)
  have hg0 := grown_alloc (World.grownBy.refl w (some p)) (.cells #[.int .i64 0, .int .i64 0, .int .i64 0] 26)
  generalize hR : w.heap.size = R at *
  generalize w.alloc (.cells #[.int .i64 0, .int .i64 0, .int .i64 0] 26) = wa at *
  refine (l13New_any _ _ _ _ hs0 (by omega)).mono ?_
  rintro e w1 ⟨f, b, s, rfl, hs1, hg1⟩
  have hRp : R ≠ p := by omega
  replace r0 := r0.grown hg1 hRp
  replace hg0 := World.grownBy.trans hg0 hg1
  have hlt1 := hs1.lt
  have hltR := r0.lt
  go_wp2_with fail
  have x0 := B3.new w1 f b s 26
  have hs2 := hs1.alloc (.cells #[.int .i64 f, .int .i64 b, .int .i64 s] 26)
  replace hg0 := grown_alloc hg0 (.cells #[.int .i64 f, .int .i64 b, .int .i64 s] 26)
  replace r0 := r0.alloc (.cells #[.int .i64 f, .int .i64 b, .int .i64 s] 26)
  generalize hX : w1.heap.size = X at *
  generalize w1.alloc (.cells #[.int .i64 f, .int .i64 b, .int .i64 s] 26) = wb at *
  have hXp : X ≠ p := by omega
  have hRX : R ≠ X := by omega
  clear hg1 hs0 hs1
  (refine (one_any _ _ _ _ _ hs2 (by omega) (by omega)).mono ?_)
  rintro e w3 ⟨t, rfl, hs3, hg3⟩
  have x3 := x0.grown hg3 hXp
  have r3 := r0.grown hg3 hRp
  have hg4 := World.grownBy.trans hg0 hg3
  cases t
  · skip
    have e1 := x3.c0
    have e2 := x3.c1
    have e3 := x3.c2
    have d1 := r3.c0
    have d2 := r3.c1
    have d3 := r3.c2
    have d4 := r3.z0
    have d5 := r3.z1
    have d6 := r3.z2
    go_wp2_with fail
    clear e1 e2 e3 d1 d2 d3 d4 d5 d6
    obtain ⟨r5, hs9, hg11⟩ := seat_end r3 hs3 hg4 (by omega) (by omega) hRp f b s
    have q1 := r5.c0
    have q2 := r5.c1
    have q3 := r5.c2
    refine bodyPost_ret (by simp [results, Try.results73, go_sem, q1, q2, q3]; try rfl) rfl ?_
    exact ⟨_, _, _, rfl, hs9.mono (by omega), hg11⟩
  · have e1 := x3.c0
    go_wp2_with fail
    refine (l13Spoil_any _ _ _ X _ _ _ _ hs3 (by omega) x3 hXp).mono ?_
    rintro e w4 ⟨w5, o, v, ho, rfl, rfl, hs5, hg5⟩
    replace x3 := x3.grown hg5 hXp
    replace r3 := r3.grown hg5 hRp
    replace hg4 := World.grownBy.trans hg4 hg5
    clear e1 hs3 hg3 hg5
    obtain ⟨r3, hs3, hg4⟩ := seat_step (o := o) (v := .int .i64 v) r3 hs5 hg4 (by omega) (by omega) hXp hRX
    rcases (show o = 0 ∨ o = 1 ∨ o = 2 by omega) with rfl | rfl | rfl
    · replace x3 := x3.set0 v
      generalize w5.setCell ⟨X, 0, none⟩ (.int .i64 v) = W at *
      have e1 := x3.c0
      have e2 := x3.c1
      have e3 := x3.c2
      have d1 := r3.c0
      have d2 := r3.c1
      have d3 := r3.c2
      have d4 := r3.z0
      have d5 := r3.z1
      have d6 := r3.z2
      go_wp2_with fail
      clear e1 e2 e3 d1 d2 d3 d4 d5 d6
      obtain ⟨r5, hs9, hg11⟩ := seat_end r3 hs3 hg4 (by omega) (by omega) hRp v b s
      have q1 := r5.c0
      have q2 := r5.c1
      have q3 := r5.c2
      refine bodyPost_ret (by simp [results, Try.results73, go_sem, q1, q2, q3]; try rfl) rfl ?_
      exact ⟨_, _, _, rfl, hs9.mono (by omega), hg11⟩
    · replace x3 := x3.set1 v
      generalize w5.setCell ⟨X, 1, none⟩ (.int .i64 v) = W at *
      have e1 := x3.c0
      have e2 := x3.c1
      have e3 := x3.c2
      have d1 := r3.c0
      have d2 := r3.c1
      have d3 := r3.c2
      have d4 := r3.z0
      have d5 := r3.z1
      have d6 := r3.z2
      go_wp2_with fail
      clear e1 e2 e3 d1 d2 d3 d4 d5 d6
      obtain ⟨r5, hs9, hg11⟩ := seat_end r3 hs3 hg4 (by omega) (by omega) hRp f v s
      have q1 := r5.c0
      have q2 := r5.c1
      have q3 := r5.c2
      refine bodyPost_ret (by simp [results, Try.results73, go_sem, q1, q2, q3]; try rfl) rfl ?_
      exact ⟨_, _, _, rfl, hs9.mono (by omega), hg11⟩
    · replace x3 := x3.set2 v
      generalize w5.setCell ⟨X, 2, none⟩ (.int .i64 v) = W at *
      have e1 := x3.c0
      have e2 := x3.c1
      have e3 := x3.c2
      have d1 := r3.c0
      have d2 := r3.c1
      have d3 := r3.c2
      have d4 := r3.z0
      have d5 := r3.z1
      have d6 := r3.z2
      go_wp2_with fail
      clear e1 e2 e3 d1 d2 d3 d4 d5 d6
      obtain ⟨r5, hs9, hg11⟩ := seat_end r3 hs3 hg4 (by omega) (by omega) hRp f b v
      have q1 := r5.c0
      have q2 := r5.c1
      have q3 := r5.c2
      refine bodyPost_ret (by simp [results, Try.results73, go_sem, q1, q2, q3]; try rfl) rfl ?_
      exact ⟨_, _, _, rfl, hs9.mono (by omega), hg11⟩
theorem l13DrawStakes_any (base p k : Nat) (w : World) (h : Src w base p k) (hk : k ≤ 800000000000) : Calls Try.prog 74 #[.pointer (some ⟨p, 0, none⟩)] w (Drawn (-9223372036854775808) 1000 base p (k + 4) w) := by
  go_enter Try.func74, Try.ntmps74
  go_wp2_with fail
  (refine (one_any _ _ _ _ _ h (by omega) (by omega)).mono ?_)
  rintro e w1 ⟨t, rfl, hs1, hg1⟩
  cases t
  · go_wp2_with fail
    (refine (pick_any _ _ _ _ _ hs1 (by omega) (by omega)).mono ?_)
    rintro e w2 ⟨v, rfl, v0, v1, hs2, hg2⟩
    go_wp2_with fail
    go_ret
    exact ⟨_, rfl, by omega, by omega, hs2, World.grownBy.trans hg1 hg2⟩
  · go_wp2_with fail
    (refine (among_any _ _ _ [-1, 2, 3, 60, 61, -9223372036854775808] _ _ _ _ (Src.alloc hs1 _) (by omega) (ints_new _ _ [-1, 2, 3, 60, 61, -9223372036854775808]) (by simp) (by simp) (by have := Src.lt hs1; simp [blk]; omega)).mono ?_)
    rintro e w2 ⟨v, rfl, hm, hs2, hg2⟩
    simp at hm
    go_wp2_with fail
    go_ret
    exact ⟨_, rfl, by omega, by omega, hs2, World.grownBy.trans (grown_alloc hg1 _) hg2⟩
theorem l13DrawPacked_any (base p k : Nat) (w : World) (h : Src w base p k) (hk : k ≤ 800000000000) : Calls Try.prog 80 #[.pointer (some ⟨p, 0, none⟩)] w (Drawn (-1) 1000 base p (k + 4) w) := by
  go_enter Try.func80, Try.ntmps80
  go_wp2_with fail
  (refine (one_any _ _ _ _ _ h (by omega) (by omega)).mono ?_)
  rintro e w1 ⟨t, rfl, hs1, hg1⟩
  cases t
  · go_wp2_with fail
    (refine (pick_any _ _ _ _ _ hs1 (by omega) (by omega)).mono ?_)
    rintro e w2 ⟨v, rfl, v0, v1, hs2, hg2⟩
    go_wp2_with fail
    go_ret
    exact ⟨_, rfl, by omega, by omega, hs2, World.grownBy.trans hg1 hg2⟩
  · go_wp2_with fail
    (refine (among_any _ _ _ [-1, 49, 50, 100, 101] _ _ _ _ (Src.alloc hs1 _) (by omega) (ints_new _ _ [-1, 49, 50, 100, 101]) (by simp) (by simp) (by have := Src.lt hs1; simp [blk]; omega)).mono ?_)
    rintro e w2 ⟨v, rfl, hm, hs2, hg2⟩
    simp at hm
    go_wp2_with fail
    go_ret
    exact ⟨_, rfl, by omega, by omega, hs2, World.grownBy.trans (grown_alloc hg1 _) hg2⟩
end Go.Proofs.Ytelbedmfnmjehaa
