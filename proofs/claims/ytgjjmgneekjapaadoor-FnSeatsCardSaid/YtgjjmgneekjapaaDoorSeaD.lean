/- The draws of seats. -/
import Derived.Test.YtgjjmgneekjapaaDoorSrc3
import Derived.Test.YtgjjmgneekjapaaDoorSeat
namespace Go.Proofs.YtgjjmgneekjapaaDoor
open Go.RowKit
set_option linter.unusedVariables false
set_option linter.unusedSimpArgs false

def DrawnS (base p k : Nat) (w : World) (e : Ending) (w' : World) : Prop := ∃ f b s : Int, e = .returned (.agg #[.int .i64 f, .int .i64 b, .int .i64 s]) ∧ Src w' base p k ∧ w.grownBy w' (some p)
set_option maxHeartbeats 2000000 in
theorem l15Draw_any (base p k : Nat) (w : World) (h : Src w base p k) (hk : k ≤ 800000000000) : Calls Tryd.prog 36 #[.pointer (some ⟨p, 0, none⟩)] w (DrawnS base p (k + 12) w) := by
  have hlo := h.lo
  have hlt := h.lt
  go_enter Tryd.func36, Tryd.ntmps36
  go_wp2_with fail
  have r0 := B3.new w 0 0 0 25
  have hs0 := h.alloc (.cells #[.int .i64 0, .int .i64 0, .int .i64 0] 25)
  have hg0 := grown_alloc (World.grownBy.refl w (some p)) (.cells #[.int .i64 0, .int .i64 0, .int .i64 0] 25)
  generalize hR : w.heap.size = R at *
  generalize w.alloc (.cells #[.int .i64 0, .int .i64 0, .int .i64 0] 25) = wa at *
  (refine (pick_any _ _ _ _ _ hs0 (by omega) (by omega)).mono ?_)
  rintro e w1 ⟨bk, rfl, a0, a1, hs1, hg1⟩
  replace r0 := r0.grown hg1 (by omega)
  replace hg0 := World.grownBy.trans hg0 hg1
  go_wp2_with fail
  (refine (pick_any _ _ _ _ _ hs1 (by omega) (by omega)).mono ?_)
  rintro e w2 ⟨sd, rfl, b0, b1, hs2, hg2⟩
  replace r0 := r0.grown hg2 (by omega)
  replace hg0 := World.grownBy.trans hg0 hg2
  have hlt2 := hs2.lt
  have hltR := r0.lt
  go_wp2_with fail
  have x0 := B3.new w2 0 (3 + bk) (3 + sd) 25
  have hs3 := hs2.alloc (.cells #[.int .i64 0, .int .i64 (3 + bk), .int .i64 (3 + sd)] 25)
  replace hg0 := grown_alloc hg0 (.cells #[.int .i64 0, .int .i64 (3 + bk), .int .i64 (3 + sd)] 25)
  replace r0 := r0.alloc (.cells #[.int .i64 0, .int .i64 (3 + bk), .int .i64 (3 + sd)] 25)
  generalize hX : w2.heap.size = X at *
  generalize w2.alloc (.cells #[.int .i64 0, .int .i64 (3 + bk), .int .i64 (3 + sd)] 25) = wb at *
  have hXp : X ≠ p := by omega
  have hRp : R ≠ p := by omega
  have hRX : R ≠ X := by omega
  clear hg1 hg2 hs0 hs1 hs2
  have e1 := x0.c0
  have e2 := x0.c1
  have e3 := x0.c2
  go_region_with ((go_at_call 37; refine (pick_any _ _ _ _ _ hs3.drew (by omega) (by omega)).mono ?_; rintro e w3 ⟨v, rfl, v0, v1, hs4, hg4⟩; have y0 := x0.drew.grown hg4 hXp; have y1 := y0.c0; have y2 := y0.c1; have y3 := y0.c2; have y4 := y0.z0))
  all_goals
    have wv1 : IntKind.i64.wrap (2 * v) = 2 * v := IntWalk.i64_in _ (by omega)
    have wv2 : IntKind.i64.wrap (3 + bk + 2 * v) = 3 + bk + 2 * v := IntWalk.i64_in _ (by omega)
    rw [wv1, wv2]
    clear y0 y1 y2 y3 y4 e1 e2 e3 wv1 wv2
    obtain ⟨r3, hs5, hg5⟩ := seat_step (o := 0) (v := .int .i64 (3 + bk + 2 * v)) (r0.grown (grownD hg4) hRp) hs4 (World.grownBy.trans hg0 (grownD hg4)) (by omega) (by omega) hXp hRX
    have x3 := (x0.grown (grownD hg4) hXp).set0 (3 + bk + 2 * v)
    generalize w3.setCell ⟨X, 0, none⟩ (.int .i64 (3 + bk + 2 * v)) = w5 at *
    have hf : 3 ≤ 3 + bk + 2 * v ∧ 3 + bk + 2 * v ≤ 30 := by omega
    obtain ⟨hf0, hf1⟩ := hf
    generalize 3 + bk + 2 * v = f at *
    have hbk : 3 ≤ 3 + bk ∧ 3 + bk ≤ 15 := by omega
    obtain ⟨hbk0, hbk1⟩ := hbk
    generalize 3 + bk = b at *
    generalize 3 + sd = sv at *
    clear hs4 hg4 x0 r0 hg0
    go_wp2_with fail
    (refine (pick_any _ _ _ _ _ hs5 (by omega) (by omega)).mono ?_)
    rintro e w6 ⟨u, rfl, u0, u1, hs6, hg6⟩
    replace r3 := r3.grown hg6 hRp
    replace x3 := x3.grown hg6 hXp
    have hg4 := World.grownBy.trans hg5 hg6
    clear hs5 hg5 hg6
    have hs3 := hs6
    clear hs6
    have hu : u = 0 ∨ u = 1 ∨ u = 2 ∨ 3 ≤ u := by omega
    rcases hu with rfl | rfl | rfl | hu
    · have wb1 : IntKind.i64.wrap (b + 1) = b + 1 := IntWalk.i64_in _ (by omega)
      have e2 := x3.c1
      have o1 := x3.z0
      have o2 := x3.z1
      have o3 := x3.z2
      go_wp2_with fail
      (refine (among_any _ _ _ [-1, 2, 3, b, b + 1, 40, 41, -9223372036854775808] _ _ _ _ (Src.alloc hs3 _) (by omega) (ints_new _ _ [-1, 2, 3, b, b + 1, 40, 41, -9223372036854775808]) (by simp) (by simp) (by have := Src.lt hs3; simp [blk]; omega)).mono ?_)
      rintro e w7 ⟨z, rfl, hm, hs7, hg7⟩
      replace r3 := (r3.alloc (.cells (List.map (Value.int .i64) [-1, 2, 3, b, b + 1, 40, 41, -9223372036854775808]).toArray 2)).grown hg7 hRp
      replace x3 := (x3.alloc (.cells (List.map (Value.int .i64) [-1, 2, 3, b, b + 1, 40, 41, -9223372036854775808]).toArray 2)).grown hg7 hXp
      have hg8 := World.grownBy.trans (grown_alloc hg4 (.cells (List.map (Value.int .i64) [-1, 2, 3, b, b + 1, 40, 41, -9223372036854775808]).toArray 2)) hg7
      clear hg4 hg7 hs3 hm e2 o1 o2 o3
      obtain ⟨r4, hs3, hg4⟩ := seat_step (o := 0) (v := .int .i64 z) r3 hs7 hg8 (by omega) (by omega) hXp hRX
      have p1 := x3.c0
      have p2 := x3.c1
      have p3 := x3.c2
      have o1 := x3.z0
      have o2 := x3.z1
      have o3 := x3.z2
      replace x3 := x3.set0 z
      have r3 := r4
      clear r4 hg8 hs7
      generalize hwz : w7.setCell ⟨X, 0, none⟩ (.int .i64 z) = wz at *
      have e1 := x3.c0
      have e2 := x3.c1
      have e3 := x3.c2
      have d1 := r3.c0
      have d2 := r3.c1
      have d3 := r3.c2
      have d4 := r3.z0
      have d5 := r3.z1
      have d6 := r3.z2
      go_wp2_with fail
      clear e1 e2 e3 d1 d2 d3 d4 d5 d6
      obtain ⟨r5, hs9, hg11⟩ := seat_end r3 hs3 hg4 (by omega) (by omega) hRp z b sv
      have q1 := r5.c0
      have q2 := r5.c1
      have q3 := r5.c2
      refine bodyPost_ret (by simp [results, Tryd.results36, go_sem, q1, q2, q3]; try rfl) rfl ?_
      exact ⟨_, _, _, rfl, hs9.mono (by omega), hg11⟩
    · have wb1 : IntKind.i64.wrap (f + 2) = f + 2 := IntWalk.i64_in _ (by omega)
      have e2 := x3.c0
      have o1 := x3.z0
      have o2 := x3.z1
      have o3 := x3.z2
      go_wp2_with fail
      (refine (among_any _ _ _ [-1, 2, 3, f, f + 2] _ _ _ _ (Src.alloc hs3 _) (by omega) (ints_new _ _ [-1, 2, 3, f, f + 2]) (by simp) (by simp) (by have := Src.lt hs3; simp [blk]; omega)).mono ?_)
      rintro e w7 ⟨z, rfl, hm, hs7, hg7⟩
      replace r3 := (r3.alloc (.cells (List.map (Value.int .i64) [-1, 2, 3, f, f + 2]).toArray 2)).grown hg7 hRp
      replace x3 := (x3.alloc (.cells (List.map (Value.int .i64) [-1, 2, 3, f, f + 2]).toArray 2)).grown hg7 hXp
      have hg8 := World.grownBy.trans (grown_alloc hg4 (.cells (List.map (Value.int .i64) [-1, 2, 3, f, f + 2]).toArray 2)) hg7
      clear hg4 hg7 hs3 hm e2 o1 o2 o3
      obtain ⟨r4, hs3, hg4⟩ := seat_step (o := 1) (v := .int .i64 z) r3 hs7 hg8 (by omega) (by omega) hXp hRX
      have p1 := x3.c0
      have p2 := x3.c1
      have p3 := x3.c2
      have o1 := x3.z0
      have o2 := x3.z1
      have o3 := x3.z2
      replace x3 := x3.set1 z
      have r3 := r4
      clear r4 hg8 hs7
      generalize hwz : w7.setCell ⟨X, 1, none⟩ (.int .i64 z) = wz at *
      have e1 := x3.c0
      have e2 := x3.c1
      have e3 := x3.c2
      have d1 := r3.c0
      have d2 := r3.c1
      have d3 := r3.c2
      have d4 := r3.z0
      have d5 := r3.z1
      have d6 := r3.z2
      go_wp2_with fail
      clear e1 e2 e3 d1 d2 d3 d4 d5 d6
      obtain ⟨r5, hs9, hg11⟩ := seat_end r3 hs3 hg4 (by omega) (by omega) hRp f z sv
      have q1 := r5.c0
      have q2 := r5.c1
      have q3 := r5.c2
      refine bodyPost_ret (by simp [results, Tryd.results36, go_sem, q1, q2, q3]; try rfl) rfl ?_
      exact ⟨_, _, _, rfl, hs9.mono (by omega), hg11⟩
    · have wb1 : True := trivial
      have e2 := x3.c0
      have o1 := x3.z0
      have o2 := x3.z1
      have o3 := x3.z2
      go_wp2_with fail
      (refine (among_any _ _ _ [-1, 2, 3, 40, 41] _ _ _ _ (Src.alloc hs3 _) (by omega) (ints_new _ _ [-1, 2, 3, 40, 41]) (by simp) (by simp) (by have := Src.lt hs3; simp [blk]; omega)).mono ?_)
      rintro e w7 ⟨z, rfl, hm, hs7, hg7⟩
      replace r3 := (r3.alloc (.cells (List.map (Value.int .i64) [-1, 2, 3, 40, 41]).toArray 2)).grown hg7 hRp
      replace x3 := (x3.alloc (.cells (List.map (Value.int .i64) [-1, 2, 3, 40, 41]).toArray 2)).grown hg7 hXp
      have hg8 := World.grownBy.trans (grown_alloc hg4 (.cells (List.map (Value.int .i64) [-1, 2, 3, 40, 41]).toArray 2)) hg7
      clear hg4 hg7 hs3 hm e2 o1 o2 o3
      obtain ⟨r4, hs3, hg4⟩ := seat_step (o := 2) (v := .int .i64 z) r3 hs7 hg8 (by omega) (by omega) hXp hRX
      have p1 := x3.c0
      have p2 := x3.c1
      have p3 := x3.c2
      have o1 := x3.z0
      have o2 := x3.z1
      have o3 := x3.z2
      replace x3 := x3.set2 z
      have r3 := r4
      clear r4 hg8 hs7
      generalize hwz : w7.setCell ⟨X, 2, none⟩ (.int .i64 z) = wz at *
      have e1 := x3.c0
      have e2 := x3.c1
      have e3 := x3.c2
      have d1 := r3.c0
      have d2 := r3.c1
      have d3 := r3.c2
      have d4 := r3.z0
      have d5 := r3.z1
      have d6 := r3.z2
      go_wp2_with fail
      clear e1 e2 e3 d1 d2 d3 d4 d5 d6
      obtain ⟨r5, hs9, hg11⟩ := seat_end r3 hs3 hg4 (by omega) (by omega) hRp f b z
      have q1 := r5.c0
      have q2 := r5.c1
      have q3 := r5.c2
      refine bodyPost_ret (by simp [results, Tryd.results36, go_sem, q1, q2, q3]; try rfl) rfl ?_
      exact ⟨_, _, _, rfl, hs9.mono (by omega), hg11⟩
    · have t0 : (u == 0) = false := by rw [beq_eq_false_iff_ne]; omega
      have t1 : (u == 1) = false := by rw [beq_eq_false_iff_ne]; omega
      have t2 : (u == 2) = false := by rw [beq_eq_false_iff_ne]; omega
      clear hu u0 u1
      have e1 := x3.c0
      have e2 := x3.c1
      have e3 := x3.c2
      have d1 := r3.c0
      have d2 := r3.c1
      have d3 := r3.c2
      have d4 := r3.z0
      have d5 := r3.z1
      have d6 := r3.z2
      go_wp2_with fail
      clear e1 e2 e3 d1 d2 d3 d4 d5 d6
      obtain ⟨r5, hs9, hg11⟩ := seat_end r3 hs3 hg4 (by omega) (by omega) hRp f b sv
      have q1 := r5.c0
      have q2 := r5.c1
      have q3 := r5.c2
      refine bodyPost_ret (by simp [results, Tryd.results36, go_sem, q1, q2, q3]; try rfl) rfl ?_
      exact ⟨_, _, _, rfl, hs9.mono (by omega), hg11⟩
end Go.Proofs.YtgjjmgneekjapaaDoor
