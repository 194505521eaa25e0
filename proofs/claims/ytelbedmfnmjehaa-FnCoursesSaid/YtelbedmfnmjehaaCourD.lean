/- The draws of rounds. -/
import Derived.Test.YtelbedmfnmjehaaSrc3
import Derived.Test.YtelbedmfnmjehaaRecCourse
namespace Go.Proofs.Ytelbedmfnmjehaa
open Go.RowKit
set_option linter.unusedVariables false
set_option linter.unusedSimpArgs false

def DrawnC (base p k : Nat) (w : World) (e : Ending) (w' : World) : Prop := ∃ f b s : Int, e = .returned (.agg #[.int .i64 f, .int .i64 b, .int .i64 s]) ∧ Src w' base p k ∧ w.grownBy w' (some p)
set_option maxHeartbeats 1000000 in
theorem l13New_any (base p k : Nat) (w : World) (h : Src w base p k) (hk : k ≤ 800000000000) : Calls Try.prog 86 #[.pointer (some ⟨p, 0, none⟩)] w (DrawnC base p (k + 10) w) := by
  have hlo := h.lo
  have hlt := h.lt
  go_enter Try.func86, Try.ntmps86
  go_wp2_with fail
  have r0 := B3.new w 0 0 0 26
  have hs0 := h.alloc (.cells #[.int .i64 0, .int .i64 0, .int .i64 0] 26)
  have hg0 := grown_alloc (World.grownBy.refl w (some p)) (.cells #[.int .i64 0, .int .i64 0, .int .i64 0] 26)
  generalize hR : w.heap.size = R at *
  generalize w.alloc (.cells #[.int .i64 0, .int .i64 0, .int .i64 0] 26) = wa at *
  (refine (pick_any _ _ _ _ _ hs0 (by omega) (by omega)).mono ?_)
  rintro e w1 ⟨a, rfl, a0, a1, hs1, hg1⟩
  replace r0 := r0.grown hg1 (by omega)
  replace hg0 := World.grownBy.trans hg0 hg1
  go_wp2_with fail
  (refine (pick_any _ _ _ _ _ hs1 (by omega) (by omega)).mono ?_)
  rintro e w2 ⟨b, rfl, b0, b1, hs2, hg2⟩
  replace r0 := r0.grown hg2 (by omega)
  replace hg0 := World.grownBy.trans hg0 hg2
  have hlt2 := hs2.lt
  have hltR := r0.lt
  go_wp2_with fail
  have x0 := B3.new w2 (300 + 10 * a) (20 + b) 0 26
  have hs3 := hs2.alloc (.cells #[.int .i64 (300 + 10 * a), .int .i64 (20 + b), .int .i64 0] 26)
  replace hg0 := grown_alloc hg0 (.cells #[.int .i64 (300 + 10 * a), .int .i64 (20 + b), .int .i64 0] 26)
  replace r0 := r0.alloc (.cells #[.int .i64 (300 + 10 * a), .int .i64 (20 + b), .int .i64 0] 26)
  generalize hX : w2.heap.size = X at *
  generalize w2.alloc (.cells #[.int .i64 (300 + 10 * a), .int .i64 (20 + b), .int .i64 0] 26) = wb at *
  have hXp : X ≠ p := by omega
  have hRp : R ≠ p := by omega
  have hRX : R ≠ X := by omega
  clear hg1 hg2 hs0 hs1 hs2
  (refine (pick_any _ _ _ _ _ hs3 (by omega) (by omega)).mono ?_)
  rintro e w3 ⟨v, rfl, v0, v1, hs4, hg4⟩
  have x3 := x0.grown hg4 hXp
  have r3 := r0.grown hg4 hRp
  have hg5 := World.grownBy.trans hg0 hg4
  have e1 := x3.c0
  have e2 := x3.c1
  have e3 := x3.c2
  have e4 := x3.z0
  have e5 := x3.z1
  have e6 := x3.z2
  have d1 := r3.c0
  have d2 := r3.c1
  have d3 := r3.c2
  have d4 := r3.z0
  have d5 := r3.z1
  have d6 := r3.z2
  go_wp2_with fail
  clear e1 e2 e3 e4 e5 e6 d1 d2 d3 d4 d5 d6
  obtain ⟨r4, hs8, hg10⟩ := seat_step (o := 2) (v := .int .i64 (1 + v)) r3 hs4 hg5 (by omega) (by omega) hXp hRX
  obtain ⟨r5, hs9, hg11⟩ := seat_end r4 hs8 hg10 (by omega) (by omega) hRp (300 + 10 * a) (20 + b) (1 + v)
  have q1 := r5.c0
  have q2 := r5.c1
  have q3 := r5.c2
  refine bodyPost_ret (by simp [results, Try.results86, go_sem, q1, q2, q3]; try rfl) rfl ?_
  exact ⟨_, _, _, rfl, hs9.mono (by omega), hg11⟩
/-- One of block X's first three cells has been written. -/
def Spoiled (base p k X : Nat) (w : World) (e : Ending) (w' : World) : Prop :=
  ∃ (w1 : World) (o : Nat) (v : Int), o ≤ 2 ∧ e = .returned (.tuple #[]) ∧ w' = w1.setCell ⟨X, o, none⟩ (.int .i64 v) ∧ Src w1 base p k ∧ w.grownBy w1 (some p)
set_option maxHeartbeats 1000000 in
theorem l13Spoil_any (base p k X : Nat) (f b s : Int) (w : World) (h : Src w base p k) (hk : k ≤ 800000000000) (x : B3 w X f b s) (hXp : X ≠ p) : Calls Try.prog 87 #[.pointer (some ⟨p, 0, none⟩), .pointer (some ⟨X, 0, none⟩)] w (Spoiled base p (k + 4) X w) := by
  go_enter Try.func87, Try.ntmps87
  go_wp2_with fail
  (refine (pick_any _ _ _ _ _ h (by omega) (by omega)).mono ?_)
  rintro e w1 ⟨u, rfl, u0, u1, hs1, hg1⟩
  have x1 := x.grown hg1 hXp
  have hu : u = 0 ∨ u = 1 ∨ u = 2 := by omega
  clear x h
  rcases hu with hu | hu | hu
  · skip
    subst hu
    go_wp2_with fail
    (refine (among_any _ _ _ [-1, 99, 100, 5000, 5001, -9223372036854775808] _ _ _ _ (Src.alloc hs1 _) (by omega) (ints_new _ _ [-1, 99, 100, 5000, 5001, -9223372036854775808]) (by simp) (by simp) (by have := Src.lt hs1; simp [blk]; omega)).mono ?_)
    rintro e w2 ⟨z, rfl, hm, hs2, hg2⟩
    have x2 := (x1.alloc (.cells (List.map (Value.int .i64) [-1, 99, 100, 5000, 5001, -9223372036854775808]).toArray 2)).grown hg2 hXp
    have hg3 := World.grownBy.trans (grown_alloc hg1 _) hg2
    have e1 := x2.c0
    have e2 := x2.c1
    have e3 := x2.c2
    have e4 := x2.z0
    have e5 := x2.z1
    have e6 := x2.z2
    go_wp2_with fail
    go_end0
    exact ⟨_, 0, _, by omega, rfl, rfl, hs2.mono (by omega), hg3⟩
  · skip
    subst hu
    go_wp2_with fail
    (refine (among_any _ _ _ [-1, 0, 1, 300, 301] _ _ _ _ (Src.alloc hs1 _) (by omega) (ints_new _ _ [-1, 0, 1, 300, 301]) (by simp) (by simp) (by have := Src.lt hs1; simp [blk]; omega)).mono ?_)
    rintro e w2 ⟨z, rfl, hm, hs2, hg2⟩
    have x2 := (x1.alloc (.cells (List.map (Value.int .i64) [-1, 0, 1, 300, 301]).toArray 2)).grown hg2 hXp
    have hg3 := World.grownBy.trans (grown_alloc hg1 _) hg2
    have e1 := x2.c0
    have e2 := x2.c1
    have e3 := x2.c2
    have e4 := x2.z0
    have e5 := x2.z1
    have e6 := x2.z2
    go_wp2_with fail
    go_end0
    exact ⟨_, 1, _, by omega, rfl, rfl, hs2.mono (by omega), hg3⟩
  · skip
    subst hu
    go_wp2_with fail
    (refine (among_any _ _ _ [-1, 0, 1, 6, 7] _ _ _ _ (Src.alloc hs1 _) (by omega) (ints_new _ _ [-1, 0, 1, 6, 7]) (by simp) (by simp) (by have := Src.lt hs1; simp [blk]; omega)).mono ?_)
    rintro e w2 ⟨z, rfl, hm, hs2, hg2⟩
    have x2 := (x1.alloc (.cells (List.map (Value.int .i64) [-1, 0, 1, 6, 7]).toArray 2)).grown hg2 hXp
    have hg3 := World.grownBy.trans (grown_alloc hg1 _) hg2
    have e1 := x2.c0
    have e2 := x2.c1
    have e3 := x2.c2
    have e4 := x2.z0
    have e5 := x2.z1
    have e6 := x2.z2
    go_wp2_with fail
    go_end0
    exact ⟨_, 2, _, by omega, rfl, rfl, hs2.mono (by omega), hg3⟩
end Go.Proofs.Ytelbedmfnmjehaa
