/- PackLevel: the memory of its closure. -/
import Derived.Test.YtkkipkmjhakknaaPackV
import Derived.WalkSmall
namespace Go.Proofs.Ytkkipkmjhakknaa
open Go.RowKit
set_option linter.unusedVariables false
set_option linter.unusedSimpArgs false

/-- The nine blocks of the closure's variables lie apart from g. -/
def Far9 (bs bw bl bb bp bu bf bh ub g : Nat) : Prop := g ≠ bs ∧ g ≠ bw ∧ g ≠ bl ∧ g ≠ bb ∧ g ≠ bp ∧ g ≠ bu ∧ g ≠ bf ∧ g ≠ bh ∧ g ≠ ub
/-- The blocks that are stored into differ from all others. -/
structure Dif9 (bs bw bl bb bp bu bf bh ub : Nat) : Prop where
  s : bs ≠ bw ∧ bs ≠ bl ∧ bs ≠ bb ∧ bs ≠ bp ∧ bs ≠ bu ∧ bs ≠ bf ∧ bs ≠ bh ∧ bs ≠ ub
  l : bl ≠ bw ∧ bl ≠ bb ∧ bl ≠ bp ∧ bl ≠ bu ∧ bl ≠ bf ∧ bl ≠ bh ∧ bl ≠ ub
  b : bb ≠ bw ∧ bb ≠ bp ∧ bb ≠ bu ∧ bb ≠ bf ∧ bb ≠ bh ∧ bb ≠ ub
  u : ub ≠ bw ∧ ub ≠ bp ∧ ub ≠ bu ∧ ub ≠ bf ∧ ub ≠ bh
/-- What the closure's variables hold. -/
structure CloC (w : World) (bs bw bl bb bp bu bf bh ub : Nat) (W P F : Value) (h : Int) (pn : Nat) (S B : Value) (l : Int) (f : Nat → Bool) : Prop where
  cs : w.cell? ⟨bs, 0, none⟩ = some S
  cw : w.cell? ⟨bw, 0, none⟩ = some W
  cl : w.cell? ⟨bl, 0, none⟩ = some (.int .i64 l)
  cb : w.cell? ⟨bb, 0, none⟩ = some B
  cp : w.cell? ⟨bp, 0, none⟩ = some P
  cu : w.cell? ⟨bu, 0, none⟩ = some (.slice (some ⟨ub, 0, none⟩) pn pn)
  cf : w.cell? ⟨bf, 0, none⟩ = some F
  ch : w.cell? ⟨bh, 0, none⟩ = some (.int .i64 h)
  zs : w.frozen? ⟨bs, 0, none⟩ = false
  zl : w.frozen? ⟨bl, 0, none⟩ = false
  zb : w.frozen? ⟨bb, 0, none⟩ = false
  zu : ∀ j : Nat, j < pn → w.frozen? ⟨ub, j, none⟩ = false
  at' : ∀ j : Nat, j < pn → w.cell? ⟨ub, j, none⟩ = some (.bool (f j))
  ul : ub < w.heap.size
theorem ne_add {a b i j : Nat} (h : a ≠ b) : (⟨a, i, none⟩ : Addr) ≠ ⟨b, j, none⟩ := fun e => h (by injection e)
theorem cell_set_ne {w : World} {a b i j : Nat} {u : Value} (v : Value) (h : a ≠ b) (hc : w.cell? ⟨b, j, none⟩ = some u) : (w.setCell ⟨a, i, none⟩ v).cell? ⟨b, j, none⟩ = some u := (World.cell?_setCell_other _ _ _ _ (ne_add h)).trans hc
section
variable {w w' : World} {bs bw bl bb bp bu bf bh ub : Nat} {W P F : Value} {h : Int} {pn : Nat} {S B : Value} {l : Int} {f : Nat → Bool}
theorem CloC.grown (H : CloC w bs bw bl bb bp bu bf bh ub W P F h pn S B l f) {r : Option Nat} (hg : w.grownBy w' r) (hf : ∀ g, r = some g → Far9 bs bw bl bb bp bu bf bh ub g) : CloC w' bs bw bl bb bp bu bf bh ub W P F h pn S B l f := by
  have hn : ∀ b : Nat, (∀ g, Far9 bs bw bl bb bp bu bf bh ub g → g ≠ b) → some b ≠ r := fun b hb e => hb b (hf b e.symm) rfl
  have ns := hn bs (fun g k => k.1)
  have nw := hn bw (fun g k => k.2.1)
  have nl := hn bl (fun g k => k.2.2.1)
  have nb := hn bb (fun g k => k.2.2.2.1)
  have np := hn bp (fun g k => k.2.2.2.2.1)
  have nu := hn bu (fun g k => k.2.2.2.2.2.1)
  have nf := hn bf (fun g k => k.2.2.2.2.2.2.1)
  have nh := hn bh (fun g k => k.2.2.2.2.2.2.2.1)
  have nv := hn ub (fun g k => k.2.2.2.2.2.2.2.2)
  exact ⟨hg.cell H.cs ns, hg.cell H.cw nw, hg.cell H.cl nl, hg.cell H.cb nb, hg.cell H.cp np, hg.cell H.cu nu, hg.cell H.cf nf, hg.cell H.ch nh,
    (hg.frozen_far _ (World.block_lt_of_cell? _ _ H.cs) ns).trans H.zs, (hg.frozen_far _ (World.block_lt_of_cell? _ _ H.cl) nl).trans H.zl, (hg.frozen_far _ (World.block_lt_of_cell? _ _ H.cb) nb).trans H.zb,
    fun j hj => (hg.frozen_far _ H.ul nv).trans (H.zu j hj), fun j hj => hg.cell (H.at' j hj) nv, Nat.lt_of_lt_of_le H.ul hg.size⟩
theorem CloC.keep (H : CloC w bs bw bl bb bp bu bf bh ub W P F h pn S B l f) (hb : Below w.heap.size w w') : CloC w' bs bw bl bb bp bu bf bh ub W P F h pn S B l f := H.grown (below_grown hb none) (fun g e => by cases e)
theorem CloC.setS (H : CloC w bs bw bl bb bp bu bf bh ub W P F h pn S B l f) (D : Dif9 bs bw bl bb bp bu bf bh ub) (S' : Value) : CloC (w.setCell ⟨bs, 0, none⟩ S') bs bw bl bb bp bu bf bh ub W P F h pn S' B l f := by
  obtain ⟨d1, d2, d3, d4, d5, d6, d7, d8⟩ := D.s
  exact ⟨World.cell?_setCell_same _ _ _ H.cs, cell_set_ne _ d1 H.cw, cell_set_ne _ d2 H.cl, cell_set_ne _ d3 H.cb, cell_set_ne _ d4 H.cp, cell_set_ne _ d5 H.cu, cell_set_ne _ d6 H.cf, cell_set_ne _ d7 H.ch,
    by rw [World.frozen?_setCell]; exact H.zs, by rw [World.frozen?_setCell]; exact H.zl, by rw [World.frozen?_setCell]; exact H.zb, fun j hj => by rw [World.frozen?_setCell]; exact H.zu j hj, fun j hj => cell_set_ne _ d8 (H.at' j hj), by simpa using H.ul⟩
theorem CloC.setL (H : CloC w bs bw bl bb bp bu bf bh ub W P F h pn S B l f) (D : Dif9 bs bw bl bb bp bu bf bh ub) (l' : Int) : CloC (w.setCell ⟨bl, 0, none⟩ (.int .i64 l')) bs bw bl bb bp bu bf bh ub W P F h pn S B l' f := by
  obtain ⟨d1, d2, d3, d4, d5, d6, d7⟩ := D.l
  exact ⟨cell_set_ne _ D.s.2.1.symm H.cs, cell_set_ne _ d1 H.cw, World.cell?_setCell_same _ _ _ H.cl, cell_set_ne _ d2 H.cb, cell_set_ne _ d3 H.cp, cell_set_ne _ d4 H.cu, cell_set_ne _ d5 H.cf, cell_set_ne _ d6 H.ch,
    by rw [World.frozen?_setCell]; exact H.zs, by rw [World.frozen?_setCell]; exact H.zl, by rw [World.frozen?_setCell]; exact H.zb, fun j hj => by rw [World.frozen?_setCell]; exact H.zu j hj, fun j hj => cell_set_ne _ d7 (H.at' j hj), by simpa using H.ul⟩
theorem CloC.setB (H : CloC w bs bw bl bb bp bu bf bh ub W P F h pn S B l f) (D : Dif9 bs bw bl bb bp bu bf bh ub) (B' : Value) : CloC (w.setCell ⟨bb, 0, none⟩ B') bs bw bl bb bp bu bf bh ub W P F h pn S B' l f := by
  obtain ⟨d1, d2, d3, d4, d5, d6⟩ := D.b
  exact ⟨cell_set_ne _ D.s.2.2.1.symm H.cs, cell_set_ne _ d1 H.cw, cell_set_ne _ D.l.2.1.symm H.cl, World.cell?_setCell_same _ _ _ H.cb, cell_set_ne _ d2 H.cp, cell_set_ne _ d3 H.cu, cell_set_ne _ d4 H.cf, cell_set_ne _ d5 H.ch,
    by rw [World.frozen?_setCell]; exact H.zs, by rw [World.frozen?_setCell]; exact H.zl, by rw [World.frozen?_setCell]; exact H.zb, fun j hj => by rw [World.frozen?_setCell]; exact H.zu j hj, fun j hj => cell_set_ne _ d6 (H.at' j hj), by simpa using H.ul⟩
theorem CloC.setU (H : CloC w bs bw bl bb bp bu bf bh ub W P F h pn S B l f) (D : Dif9 bs bw bl bb bp bu bf bh ub) (k : Nat) (v : Bool) (f' : Nat → Bool) (hf : ∀ j, j < pn → f' j = if j = k then v else f j) : CloC (w.setCell ⟨ub, k, none⟩ (.bool v)) bs bw bl bb bp bu bf bh ub W P F h pn S B l f' := by
  obtain ⟨d1, d2, d3, d4, d5⟩ := D.u
  refine ⟨cell_set_ne _ D.s.2.2.2.2.2.2.2.symm H.cs, cell_set_ne _ d1 H.cw, cell_set_ne _ D.l.2.2.2.2.2.2.symm H.cl, cell_set_ne _ D.b.2.2.2.2.2.symm H.cb, cell_set_ne _ d2 H.cp, cell_set_ne _ d3 H.cu, cell_set_ne _ d4 H.cf, cell_set_ne _ d5 H.ch,
    by rw [World.frozen?_setCell]; exact H.zs, by rw [World.frozen?_setCell]; exact H.zl, by rw [World.frozen?_setCell]; exact H.zb, fun j hj => by rw [World.frozen?_setCell]; exact H.zu j hj, fun j hj => ?_, by simpa using H.ul⟩
  rw [hf j hj]
  by_cases e : j = k
  · subst e
    rw [if_pos rfl]
    exact World.cell?_setCell_same _ _ _ (H.at' j hj)
  · rw [if_neg e]
    exact (World.cell?_setCell_other _ _ _ _ (fun e2 => e (by injection e2 with e3 e4; exact e4.symm))).trans (H.at' j hj)
end
/-- Whom the rows belong to. -/
structure CloO (w : World) (base : Nat) (Far : Nat → Prop) (U BA : Option Addr) (q uc bn bc : Nat) (us bs : List Int) : Prop where
  own : OwnI w base (.slice U q uc) q us
  best : OwnI w base (.slice BA bn bc) bn bs
  farU : ∀ g, blk U = some g → Far g
  farB : ∀ g, blk BA = some g → Far g
  apart : ∀ g, blk U = some g → blk BA ≠ some g
section
variable {w w' : World} {base : Nat} {Far : Nat → Prop} {U BA : Option Addr} {q uc bn bc : Nat} {us xs : List Int}
theorem CloO.grown (H : CloO w base Far U BA q uc bn bc us xs) {r : Option Nat} (hg : w.grownBy w' r) (hf : ∀ g, r = some g → ¬ Far g) : CloO w' base Far U BA q uc bn bc us xs :=
  ⟨OwnI.grown H.own hg (fun g e e2 => hf g e (H.farU g e2)), OwnI.grown H.best hg (fun g e e2 => hf g e (H.farB g e2)), H.farU, H.farB, H.apart⟩
theorem CloO.keep (H : CloO w base Far U BA q uc bn bc us xs) (hb : Below w.heap.size w w') : CloO w' base Far U BA q uc bn bc us xs := H.grown (below_grown hb none) (fun g e => by cases e)
theorem CloO.set (H : CloO w base Far U BA q uc bn bc us xs) (b i : Nat) (v : Value) (hf : ¬ Far b) : CloO (w.setCell ⟨b, i, none⟩ v) base Far U BA q uc bn bc us xs := H.grown (grown_setCell w b i v) (fun g e => by injection e with e; subst e; exact hf)
theorem CloO.pop {k : Int} (H : CloO w base Far U BA (q + 1) uc bn bc (us ++ [k]) xs) : ∃ g, U = some ⟨g, 0, none⟩ ∧ q + 1 ≤ uc ∧ CloO w base Far U BA q uc bn bc us xs := by
  have hl := OwnI.len H.own
  rcases H.own.2 with ⟨h1, h2⟩ | ⟨g, cap, cur, hv, hg, h3, h5, h6⟩
  · omega
  · injection hv with e1 e2 e3
    subst e1
    refine ⟨g, rfl, by omega, ?_, H.best, H.farU, H.farB, H.apart⟩
    have h4 : w.ownsRow base 2 1 (.slice (some ⟨g, 0, none⟩) (q + 1) uc) (q + 1) (us.map (Value.int .i64) ++ [.int .i64 k]) := by
      have := H.own
      unfold OwnI at this
      simpa using this
    exact ownsRow_pop (by simp at hl ⊢; omega) h4
end
theorem hasI_snoc (us : List Int) (k j : Nat) : hasI (us ++ [(k : Int)]) j = if j = k then true else hasI us j := by
  unfold hasI
  by_cases e : j = k
  · subst e; simp
  · rw [if_neg e]
    have : ¬ ((j : Int) = (k : Int)) := by omega
    simp [this]
theorem hasI_drop (us : List Int) (k j : Nat) (hk : hasI us k = false) : hasI us j = if j = k then false else hasI (us ++ [(k : Int)]) j := by
  rw [hasI_snoc]
  by_cases e : j = k
  · subst e; simpa using hk
  · simp [e]
end Go.Proofs.Ytkkipkmjhakknaa
