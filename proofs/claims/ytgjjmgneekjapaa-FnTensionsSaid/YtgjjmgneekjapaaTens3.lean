/- The draw of a seat. -/
import Derived.Test.YtgjjmgneekjapaaTens2
import Derived.Deep.RegionWith
import Derived.Deep.RegionHeld3
namespace Go.Proofs.Ytgjjmgneekjapaa
open Go.RowKit
set_option linter.unusedVariables false
set_option linter.unusedSimpArgs false

def DrawnSeat (base p k : Nat) (w : World) (e : Ending) (w' : World) : Prop := ∃ f b s : Int, e = .returned (.agg #[.int .i64 f, .int .i64 b, .int .i64 s]) ∧ Src w' base p k ∧ w.grownBy w' (some p)
/-- Block q is a struct of three numbers that may be written. -/
structure B3 (w : World) (q : Nat) (f b s : Int) : Prop where
  c0 : w.cell? ⟨q, 0, none⟩ = some (.int .i64 f)
  c1 : w.cell? ⟨q, 1, none⟩ = some (.int .i64 b)
  c2 : w.cell? ⟨q, 2, none⟩ = some (.int .i64 s)
  z0 : w.frozen? ⟨q, 0, none⟩ = false
  z1 : w.frozen? ⟨q, 1, none⟩ = false
  z2 : w.frozen? ⟨q, 2, none⟩ = false
theorem B3.new (w : World) (f b s : Int) (t : TypeId) : B3 (w.alloc (.cells #[.int .i64 f, .int .i64 b, .int .i64 s] t)) w.heap.size f b s := ⟨by go_cell, by go_cell, by go_cell, by simp, by simp, by simp⟩
theorem B3.drew {w : World} {q : Nat} {f b s : Int} (h : B3 w q f b s) : B3 w.drew q f b s := ⟨h.c0, h.c1, h.c2, h.z0, h.z1, h.z2⟩
theorem B3.drewN {w : World} {q : Nat} {f b s : Int} (h : B3 w q f b s) (n : Nat) : B3 (w.drewN n) q f b s := ⟨h.c0, h.c1, h.c2, h.z0, h.z1, h.z2⟩
theorem B3.lt {w : World} {q : Nat} {f b s : Int} (h : B3 w q f b s) : q < w.heap.size := World.block_lt_of_cell? _ _ h.c0
theorem B3.grown {w w' : World} {q p : Nat} {f b s : Int} (h : B3 w q f b s) (hg : w.grownBy w' (some p)) (hne : q ≠ p) : B3 w' q f b s := by
  have hn : ∀ o : Nat, some (⟨q, o, none⟩ : Addr).block ≠ some p := fun o e => hne (by injection e)
  have hlt := h.lt
  exact ⟨hg.cell h.c0 (hn 0), hg.cell h.c1 (hn 1), hg.cell h.c2 (hn 2), (hg.frozen_far _ hlt (hn 0)).trans h.z0, (hg.frozen_far _ hlt (hn 1)).trans h.z1, (hg.frozen_far _ hlt (hn 2)).trans h.z2⟩
theorem B3.keep {w w' : World} {q : Nat} {f b s : Int} (h : B3 w q f b s) (hb : Below w.heap.size w w') : B3 w' q f b s := by
  have hlt := h.lt
  exact ⟨keepc hb h.c0, keepc hb h.c1, keepc hb h.c2, (hb.frozen (p := ⟨q, 0, none⟩) hlt).trans h.z0, (hb.frozen (p := ⟨q, 1, none⟩) hlt).trans h.z1, (hb.frozen (p := ⟨q, 2, none⟩) hlt).trans h.z2⟩
theorem B3.alloc {w : World} {q : Nat} {f b s : Int} (h : B3 w q f b s) (o : Obj) : B3 (w.alloc o) q f b s := h.keep ((Below.refl _ _).alloc (Nat.le_refl _) o)
theorem B3.set0 {w : World} {q : Nat} {f b s : Int} (h : B3 w q f b s) (v : Int) : B3 (w.setCell ⟨q, 0, none⟩ (.int .i64 v)) q v b s :=
  ⟨World.cell?_setCell_same _ _ _ h.c0, (World.cell?_setCell_other _ _ _ _ (by simp)).trans h.c1, (World.cell?_setCell_other _ _ _ _ (by simp)).trans h.c2, by simpa using h.z0, by simpa using h.z1, by simpa using h.z2⟩
theorem B3.set1 {w : World} {q : Nat} {f b s : Int} (h : B3 w q f b s) (v : Int) : B3 (w.setCell ⟨q, 1, none⟩ (.int .i64 v)) q f v s :=
  ⟨(World.cell?_setCell_other _ _ _ _ (by simp)).trans h.c0, World.cell?_setCell_same _ _ _ h.c1, (World.cell?_setCell_other _ _ _ _ (by simp)).trans h.c2, by simpa using h.z0, by simpa using h.z1, by simpa using h.z2⟩
theorem B3.set2 {w : World} {q : Nat} {f b s : Int} (h : B3 w q f b s) (v : Int) : B3 (w.setCell ⟨q, 2, none⟩ (.int .i64 v)) q f b v :=
  ⟨(World.cell?_setCell_other _ _ _ _ (by simp)).trans h.c0, (World.cell?_setCell_other _ _ _ _ (by simp)).trans h.c1, World.cell?_setCell_same _ _ _ h.c2, by simpa using h.z0, by simpa using h.z1, by simpa using h.z2⟩
theorem Src.drew {w : World} {base p k : Nat} (h : Src w base p k) : Src w.drew base p k := ⟨h.lo, h.src⟩
theorem Src.drewN {w : World} {base p k : Nat} (h : Src w base p k) (n : Nat) : Src (w.drewN n) base p k := ⟨h.lo, h.src⟩
theorem Src.setCell {w : World} {base p k q : Nat} (h : Src w base p k) (o : Nat) (v : Value) (hq : base ≤ q) (hne : q ≠ p) : Src (w.setCell ⟨q, o, none⟩ v) base p k := h.grown (grown_setCell w q o v) (fun g e => by injection e with e; subst e; exact ⟨hq, hne⟩)

theorem grownD {w w1 : World} {r : Option Nat} (h : w.drew.grownBy w1 r) : w.grownBy w1 r := ⟨h.os, h.tape, h.output, h.size, h.block⟩
theorem seat_step {w W : World} {base p k R X o : Nat} {a b c : Int} {v : Value} (r : B3 W R a b c) (hs : Src W base p k) (hg : w.grownBy W (some p)) (hX : w.heap.size ≤ X) (hb : base ≤ X) (hXp : X ≠ p) (hRX : R ≠ X) :
    B3 (W.setCell ⟨X, o, none⟩ v) R a b c ∧ Src (W.setCell ⟨X, o, none⟩ v) base p k ∧ w.grownBy (W.setCell ⟨X, o, none⟩ v) (some p) :=
  ⟨r.grown (grown_setCell W X o v) hRX, hs.setCell o v hb hXp, World.grownBy.andThen hg (grown_setCell W X o v) (fun j e => by injection e with e; left; omega)⟩
theorem seat_end {w W : World} {base p k R : Nat} {a b c : Int} (r : B3 W R a b c) (hs : Src W base p k) (hg : w.grownBy W (some p)) (hR : w.heap.size ≤ R) (hb : base ≤ R) (hRp : R ≠ p) (x y z : Int) :
    B3 (((W.setCell ⟨R, 0, none⟩ (.int .i64 x)).setCell ⟨R, 1, none⟩ (.int .i64 y)).setCell ⟨R, 2, none⟩ (.int .i64 z)) R x y z ∧ Src (((W.setCell ⟨R, 0, none⟩ (.int .i64 x)).setCell ⟨R, 1, none⟩ (.int .i64 y)).setCell ⟨R, 2, none⟩ (.int .i64 z)) base p k ∧ w.grownBy (((W.setCell ⟨R, 0, none⟩ (.int .i64 x)).setCell ⟨R, 1, none⟩ (.int .i64 y)).setCell ⟨R, 2, none⟩ (.int .i64 z)) (some p) :=
  ⟨((r.set0 x).set1 y).set2 z, ((hs.setCell 0 _ hb hRp).setCell 1 _ hb hRp).setCell 2 _ hb hRp, World.grownBy.andThen (World.grownBy.andThen (World.grownBy.andThen hg (grown_setCell W R 0 _) (fun j e => by injection e with e; left; omega)) (grown_setCell _ R 1 _) (fun j e => by injection e with e; left; omega)) (grown_setCell _ R 2 _) (fun j e => by injection e with e; left; omega)⟩
set_option maxHeartbeats 4000000 in
theorem l15Draw_any (base p k : Nat) (w : World) (h : Src w base p k) (hk : k ≤ 800000000000) : Calls Try.prog 56 #[.pointer (some ⟨p, 0, none⟩)] w (DrawnSeat base p (k + 20) w) := by
  have hlo := h.lo
  have hlt := h.lt
  go_enter Try.func56, Try.ntmps56
  go_wp2_with fail
  have r0 := B3.new w 0 0 0 25
  have hs0 := h.alloc (.cells #[.int .i64 0, .int .i64 0, .int .i64 0] 25)
  have hg0 := grown_alloc (World.grownBy.refl w (some p)) (.cells #[.int .i64 0, .int .i64 0, .int .i64 0] 25)
  generalize hR : w.heap.size = R at *
  generalize w.alloc (.cells #[.int .i64 0, .int .i64 0, .int .i64 0] 25) = wa at *
  (refine (pick_any _ _ _ _ _ hs0 (by omega) (by omega)).mono ?_)
  rintro e w1 ⟨b, rfl, b0, b1, hs1, hg1⟩
  replace r0 := r0.grown hg1 (by omega)
  replace hg0 := World.grownBy.trans hg0 hg1
  go_wp2_with fail
  (refine (pick_any _ _ _ _ _ hs1 (by omega) (by omega)).mono ?_)
  rintro e w2 ⟨s, rfl, s0, s1, hs2, hg2⟩
  replace r0 := r0.grown hg2 (by omega)
  replace hg0 := World.grownBy.trans hg0 hg2
  have hlt2 := hs2.lt
  have hltR := r0.lt
  go_wp2_with fail
  have x0 := B3.new w2 0 (3 + b) (3 + s) 25
  have hs3 := hs2.alloc (.cells #[.int .i64 0, .int .i64 (3 + b), .int .i64 (3 + s)] 25)
  replace hg0 := grown_alloc hg0 (.cells #[.int .i64 0, .int .i64 (3 + b), .int .i64 (3 + s)] 25)
  replace r0 := r0.alloc (.cells #[.int .i64 0, .int .i64 (3 + b), .int .i64 (3 + s)] 25)
  generalize hX : w2.heap.size = X at *
  generalize w2.alloc (.cells #[.int .i64 0, .int .i64 (3 + b), .int .i64 (3 + s)] 25) = wb at *
  have hXp : X ≠ p := by omega
  have hRp : R ≠ p := by omega
  have hXR : X ≠ R := by omega
  clear hg1 hg2 hs0 hs1 hs2
  have e1 := x0.c0
  have e2 := x0.c1
  have e3 := x0.z0
  go_region_with ((go_at_call 52; refine (pick_any _ _ _ (k + 2 + 2) _ hs3.drew (by omega) (by omega)).mono ?_; rintro e w3 ⟨v, rfl, v0, v1, hs4, hg4⟩; have y0 := x0.drew.grown hg4 hXp; have y1 := y0.c0; have y2 := y0.c1; have y3 := y0.z0))
  all_goals
    clear y1 y2 y3 e1 e2 e3 x0
    obtain ⟨f, hf, f0, f1⟩ : ∃ f, IntKind.i64.wrap (3 + b + IntKind.i64.wrap (2 * v)) = f ∧ 0 ≤ f ∧ f ≤ 1000 := ⟨3 + b + 2 * v, by rw [IntWalk.i64_in (2 * v) (by omega), IntWalk.i64_in _ (by omega)], by omega, by omega⟩
    rw [hf]
    clear hf
    have x1 := y0.set0 f
    have hs5 := hs4.setCell 0 (.int .i64 f) (show base ≤ X by omega) hXp
    have hg5 := World.grownBy.andThen (World.grownBy.trans hg0 (grownD hg4)) (grown_setCell w3 X 0 (.int .i64 f)) (fun j e => by injection e with e; left; omega)
    have r1 := (r0.drew.grown hg4 hRp).grown (grown_setCell w3 X 0 (.int .i64 f)) (by omega)
    generalize w3.setCell ⟨X, 0, none⟩ (.int .i64 f) = w4 at *
    clear y0 hs4 hg4 r0 hg0 hs3
    go_wp2_with fail
    (refine (pick_any _ _ _ _ _ hs5 (by omega) (by omega)).mono ?_)
    rintro e w5 ⟨u, rfl, u0, u1, hs6, hg6⟩
    have x2 := x1.grown hg6 hXp
    have r2 := r1.grown hg6 hRp
    have hg7 := World.grownBy.trans hg5 hg6
    clear x1 hs5 hg5 r1 hg6
    have hRX : R ≠ X := fun e => hXR e.symm
    by_cases h0 : u = 0
    · subst h0
      have e1 := x2.c0
      have e2 := x2.c1
      have e3 := x2.c2
      have e4 := x2.z0
      go_wp2_with fail
      (refine (among_any _ _ _ [-1, 2, 3, 3 + b, 3 + b + 1, 40, 41, -9223372036854775808] _ _ _ _ (Src.alloc hs6 _) (by omega) (ints_new _ _ [-1, 2, 3, 3 + b, 3 + b + 1, 40, 41, -9223372036854775808]) (by simp) (by simp) (by have := Src.lt hs6; simp [blk]; omega)).mono ?_)
      rintro e w6 ⟨z, rfl, hm, hs7, hg8⟩
      have x3 := (x2.alloc (.cells (List.map (Value.int .i64) [-1, 2, 3, 3 + b, 3 + b + 1, 40, 41, -9223372036854775808]).toArray 2)).grown hg8 hXp
      have r3 := (r2.alloc (.cells (List.map (Value.int .i64) [-1, 2, 3, 3 + b, 3 + b + 1, 40, 41, -9223372036854775808]).toArray 2)).grown hg8 hRp
      have hg9 := World.grownBy.trans (grown_alloc hg7 _) hg8
      clear e1 e2 e3 e4 hm x2 r2 hg7 hg8 hs6
      have e1 := x3.c0
      have e2 := x3.c1
      have e3 := x3.c2
      have e4 := x3.z0
      have e5 := x3.z1
      have e6 := x3.z2
      have d1 := r3.c0
      have d2 := r3.c1
      have d3 := r3.c2
      have d4 := r3.z0
      have d5 := r3.z1
      have d6 := r3.z2
      go_wp2_with fail
      clear e1 e2 e3 e4 e5 e6 d1 d2 d3 d4 d5 d6
      obtain ⟨r4, hs8, hg10⟩ := (seat_step (o := 0) (v := .int .i64 z) r3 hs7 hg9 (by omega) (by omega) hXp hRX)
      obtain ⟨r5, hs9, hg11⟩ := seat_end r4 hs8 hg10 (by omega) (by omega) hRp z (3 + b) (3 + s)
      have q1 := r5.c0
      have q2 := r5.c1
      have q3 := r5.c2
      refine bodyPost_ret (by simp [results, Try.results56, go_sem, q1, q2, q3]; try rfl) rfl ?_
      exact ⟨_, _, _, rfl, hs9.mono (by omega), hg11⟩
    by_cases h1 : u = 1
    · subst h1
      have e1 := x2.c0
      have e2 := x2.c1
      have e3 := x2.c2
      have e4 := x2.z0
      go_wp2_with fail
      (refine (among_any _ _ _ [-1, 2, 3, f, f + 2] _ _ _ _ (Src.alloc hs6 _) (by omega) (ints_new _ _ [-1, 2, 3, f, f + 2]) (by simp) (by simp) (by have := Src.lt hs6; simp [blk]; omega)).mono ?_)
      rintro e w6 ⟨z, rfl, hm, hs7, hg8⟩
      have x3 := (x2.alloc (.cells (List.map (Value.int .i64) [-1, 2, 3, f, f + 2]).toArray 2)).grown hg8 hXp
      have r3 := (r2.alloc (.cells (List.map (Value.int .i64) [-1, 2, 3, f, f + 2]).toArray 2)).grown hg8 hRp
      have hg9 := World.grownBy.trans (grown_alloc hg7 _) hg8
      clear e1 e2 e3 e4 hm x2 r2 hg7 hg8 hs6
      have e1 := x3.c0
      have e2 := x3.c1
      have e3 := x3.c2
      have e4 := x3.z0
      have e5 := x3.z1
      have e6 := x3.z2
      have d1 := r3.c0
      have d2 := r3.c1
      have d3 := r3.c2
      have d4 := r3.z0
      have d5 := r3.z1
      have d6 := r3.z2
      go_wp2_with fail
      clear e1 e2 e3 e4 e5 e6 d1 d2 d3 d4 d5 d6
      obtain ⟨r4, hs8, hg10⟩ := (seat_step (o := 1) (v := .int .i64 z) r3 hs7 hg9 (by omega) (by omega) hXp hRX)
      obtain ⟨r5, hs9, hg11⟩ := seat_end r4 hs8 hg10 (by omega) (by omega) hRp f z (3 + s)
      have q1 := r5.c0
      have q2 := r5.c1
      have q3 := r5.c2
      refine bodyPost_ret (by simp [results, Try.results56, go_sem, q1, q2, q3]; try rfl) rfl ?_
      exact ⟨_, _, _, rfl, hs9.mono (by omega), hg11⟩
    by_cases h2 : u = 2
    · subst h2
      have e1 := x2.c0
      have e2 := x2.c1
      have e3 := x2.c2
      have e4 := x2.z0
      go_wp2_with fail
      (refine (among_any _ _ _ [-1, 2, 3, 40, 41] _ _ _ _ (Src.alloc hs6 _) (by omega) (ints_new _ _ [-1, 2, 3, 40, 41]) (by simp) (by simp) (by have := Src.lt hs6; simp [blk]; omega)).mono ?_)
      rintro e w6 ⟨z, rfl, hm, hs7, hg8⟩
      have x3 := (x2.alloc (.cells (List.map (Value.int .i64) [-1, 2, 3, 40, 41]).toArray 2)).grown hg8 hXp
      have r3 := (r2.alloc (.cells (List.map (Value.int .i64) [-1, 2, 3, 40, 41]).toArray 2)).grown hg8 hRp
      have hg9 := World.grownBy.trans (grown_alloc hg7 _) hg8
      clear e1 e2 e3 e4 hm x2 r2 hg7 hg8 hs6
      have e1 := x3.c0
      have e2 := x3.c1
      have e3 := x3.c2
      have e4 := x3.z0
      have e5 := x3.z1
      have e6 := x3.z2
      have d1 := r3.c0
      have d2 := r3.c1
      have d3 := r3.c2
      have d4 := r3.z0
      have d5 := r3.z1
      have d6 := r3.z2
      go_wp2_with fail
      clear e1 e2 e3 e4 e5 e6 d1 d2 d3 d4 d5 d6
      obtain ⟨r4, hs8, hg10⟩ := (seat_step (o := 2) (v := .int .i64 z) r3 hs7 hg9 (by omega) (by omega) hXp hRX)
      obtain ⟨r5, hs9, hg11⟩ := seat_end r4 hs8 hg10 (by omega) (by omega) hRp f (3 + b) z
      have q1 := r5.c0
      have q2 := r5.c1
      have q3 := r5.c2
      refine bodyPost_ret (by simp [results, Try.results56, go_sem, q1, q2, q3]; try rfl) rfl ?_
      exact ⟨_, _, _, rfl, hs9.mono (by omega), hg11⟩
    · have t0 : (u == 0) = false := by rw [beq_eq_false_iff_ne]; exact h0
      have t1 : (u == 1) = false := by rw [beq_eq_false_iff_ne]; exact h1
      have t2 : (u == 2) = false := by rw [beq_eq_false_iff_ne]; exact h2
      have x3 := x2
      have r3 := r2
      clear h0 h1 h2
      have e1 := x3.c0
      have e2 := x3.c1
      have e3 := x3.c2
      have e4 := x3.z0
      have e5 := x3.z1
      have e6 := x3.z2
      have d1 := r3.c0
      have d2 := r3.c1
      have d3 := r3.c2
      have d4 := r3.z0
      have d5 := r3.z1
      have d6 := r3.z2
      go_wp2_with fail
      clear e1 e2 e3 e4 e5 e6 d1 d2 d3 d4 d5 d6
      obtain ⟨r4, hs8, hg10⟩ := (⟨r3, hs6, hg7⟩ : B3 w5 R _ _ _ ∧ Src w5 base p _ ∧ w.grownBy w5 (some p))
      obtain ⟨r5, hs9, hg11⟩ := seat_end r4 hs8 hg10 (by omega) (by omega) hRp f (3 + b) (3 + s)
      have q1 := r5.c0
      have q2 := r5.c1
      have q3 := r5.c2
      refine bodyPost_ret (by simp [results, Try.results56, go_sem, q1, q2, q3]; try rfl) rfl ?_
      exact ⟨_, _, _, rfl, hs9.mono (by omega), hg11⟩
end Go.Proofs.Ytgjjmgneekjapaa
