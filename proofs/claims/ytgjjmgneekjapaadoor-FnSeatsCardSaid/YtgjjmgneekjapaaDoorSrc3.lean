/- A struct of three numbers in a block of its own; more of the source. -/
import Derived.Test.YtgjjmgneekjapaaDoorSrc2
import Derived.Deep.RegionWith
import Derived.Deep.RegionHeld3
namespace Go.Proofs.YtgjjmgneekjapaaDoor
open Go.RowKit
set_option linter.unusedVariables false
set_option linter.unusedSimpArgs false

/-- Block q is a struct of three numbers that may be written. -/
structure B3 (w : World) (q : Nat) (f b s : Int) : Prop where
  c0 : w.cell? ⟨q, 0, none⟩ = some (.int .i64 f)
  c1 : w.cell? ⟨q, 1, none⟩ = some (.int .i64 b)
  c2 : w.cell? ⟨q, 2, none⟩ = some (.int .i64 s)
  z0 : w.frozen? ⟨q, 0, none⟩ = false
  z1 : w.frozen? ⟨q, 1, none⟩ = false
  z2 : w.frozen? ⟨q, 2, none⟩ = false
theorem B3.new (w : World) (f b s : Int) (t : TypeId) : B3 (w.alloc (.cells #[.int .i64 f, .int .i64 b, .int .i64 s] t)) w.heap.size f b s := ⟨by go_cell, by go_cell, by go_cell, by simp, by simp, by simp⟩
theorem B3.drew {w : World} {q : Nat} {f b s : Int} (h : B3 w q f b s) : B3 w.drew q f b s := ⟨h.c0, h.c1, h.c2, h.z0, h.z1, h.z2⟩
theorem B3.drewN {w : World} {q : Nat} {f b s : Int} (h : B3 w q f b s) (n : Nat) : B3 (w.drewN n) q f b s := ⟨h.c0, h.c1, h.c2, h.z0, h.z1, h.z2⟩
theorem B3.lt {w : World} {q : Nat} {f b s : Int} (h : B3 w q f b s) : q < w.heap.size := World.block_lt_of_cell? _ _ h.c0
theorem B3.grown {w w' : World} {q p : Nat} {f b s : Int} (h : B3 w q f b s) (hg : w.grownBy w' (some p)) (hne : q ≠ p) : B3 w' q f b s := by
  have hn : ∀ o : Nat, some (⟨q, o, none⟩ : Addr).block ≠ some p := fun o e => hne (by injection e)
  have hlt := h.lt
  exact ⟨hg.cell h.c0 (hn 0), hg.cell h.c1 (hn 1), hg.cell h.c2 (hn 2), (hg.frozen_far _ hlt (hn 0)).trans h.z0, (hg.frozen_far _ hlt (hn 1)).trans h.z1, (hg.frozen_far _ hlt (hn 2)).trans h.z2⟩
theorem B3.keep {w w' : World} {q : Nat} {f b s : Int} (h : B3 w q f b s) (hb : Below w.heap.size w w') : B3 w' q f b s := by
  have hlt := h.lt
  exact ⟨keepc hb h.c0, keepc hb h.c1, keepc hb h.c2, (hb.frozen (p := ⟨q, 0, none⟩) hlt).trans h.z0, (hb.frozen (p := ⟨q, 1, none⟩) hlt).trans h.z1, (hb.frozen (p := ⟨q, 2, none⟩) hlt).trans h.z2⟩
theorem B3.alloc {w : World} {q : Nat} {f b s : Int} (h : B3 w q f b s) (o : Obj) : B3 (w.alloc o) q f b s := h.keep ((Below.refl _ _).alloc (Nat.le_refl _) o)
theorem B3.set0 {w : World} {q : Nat} {f b s : Int} (h : B3 w q f b s) (v : Int) : B3 (w.setCell ⟨q, 0, none⟩ (.int .i64 v)) q v b s :=
  ⟨World.cell?_setCell_same _ _ _ h.c0, (World.cell?_setCell_other _ _ _ _ (by simp)).trans h.c1, (World.cell?_setCell_other _ _ _ _ (by simp)).trans h.c2, by simpa using h.z0, by simpa using h.z1, by simpa using h.z2⟩
theorem B3.set1 {w : World} {q : Nat} {f b s : Int} (h : B3 w q f b s) (v : Int) : B3 (w.setCell ⟨q, 1, none⟩ (.int .i64 v)) q f v s :=
  ⟨(World.cell?_setCell_other _ _ _ _ (by simp)).trans h.c0, World.cell?_setCell_same _ _ _ h.c1, (World.cell?_setCell_other _ _ _ _ (by simp)).trans h.c2, by simpa using h.z0, by simpa using h.z1, by simpa using h.z2⟩
theorem B3.set2 {w : World} {q : Nat} {f b s : Int} (h : B3 w q f b s) (v : Int) : B3 (w.setCell ⟨q, 2, none⟩ (.int .i64 v)) q f b v :=
  ⟨(World.cell?_setCell_other _ _ _ _ (by simp)).trans h.c0, (World.cell?_setCell_other _ _ _ _ (by simp)).trans h.c1, World.cell?_setCell_same _ _ _ h.c2, by simpa using h.z0, by simpa using h.z1, by simpa using h.z2⟩
theorem Src.drew {w : World} {base p k : Nat} (h : Src w base p k) : Src w.drew base p k := ⟨h.lo, h.src⟩
theorem Src.drewN {w : World} {base p k : Nat} (h : Src w base p k) (n : Nat) : Src (w.drewN n) base p k := ⟨h.lo, h.src⟩
theorem Src.setCell {w : World} {base p k q : Nat} (h : Src w base p k) (o : Nat) (v : Value) (hq : base ≤ q) (hne : q ≠ p) : Src (w.setCell ⟨q, o, none⟩ v) base p k := h.grown (grown_setCell w q o v) (fun g e => by injection e with e; subst e; exact ⟨hq, hne⟩)

theorem grownD {w w1 : World} {r : Option Nat} (h : w.drew.grownBy w1 r) : w.grownBy w1 r := ⟨h.os, h.tape, h.output, h.size, h.block⟩
theorem seat_step {w W : World} {base p k R X o : Nat} {a b c : Int} {v : Value} (r : B3 W R a b c) (hs : Src W base p k) (hg : w.grownBy W (some p)) (hX : w.heap.size ≤ X) (hb : base ≤ X) (hXp : X ≠ p) (hRX : R ≠ X) :
    B3 (W.setCell ⟨X, o, none⟩ v) R a b c ∧ Src (W.setCell ⟨X, o, none⟩ v) base p k ∧ w.grownBy (W.setCell ⟨X, o, none⟩ v) (some p) :=
  ⟨r.grown (grown_setCell W X o v) hRX, hs.setCell o v hb hXp, World.grownBy.andThen hg (grown_setCell W X o v) (fun j e => by injection e with e; left; omega)⟩
theorem seat_end {w W : World} {base p k R : Nat} {a b c : Int} (r : B3 W R a b c) (hs : Src W base p k) (hg : w.grownBy W (some p)) (hR : w.heap.size ≤ R) (hb : base ≤ R) (hRp : R ≠ p) (x y z : Int) :
    B3 (((W.setCell ⟨R, 0, none⟩ (.int .i64 x)).setCell ⟨R, 1, none⟩ (.int .i64 y)).setCell ⟨R, 2, none⟩ (.int .i64 z)) R x y z ∧ Src (((W.setCell ⟨R, 0, none⟩ (.int .i64 x)).setCell ⟨R, 1, none⟩ (.int .i64 y)).setCell ⟨R, 2, none⟩ (.int .i64 z)) base p k ∧ w.grownBy (((W.setCell ⟨R, 0, none⟩ (.int .i64 x)).setCell ⟨R, 1, none⟩ (.int .i64 y)).setCell ⟨R, 2, none⟩ (.int .i64 z)) (some p) :=
  ⟨((r.set0 x).set1 y).set2 z, ((hs.setCell 0 _ hb hRp).setCell 1 _ hb hRp).setCell 2 _ hb hRp, World.grownBy.andThen (World.grownBy.andThen (World.grownBy.andThen hg (grown_setCell W R 0 _) (fun j e => by injection e with e; left; omega)) (grown_setCell _ R 1 _) (fun j e => by injection e with e; left; omega)) (grown_setCell _ R 2 _) (fun j e => by injection e with e; left; omega)⟩
end Go.Proofs.YtgjjmgneekjapaaDoor
