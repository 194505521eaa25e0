/- Baskets: what comes in, copies, sizes, comparisons. -/
import Derived.Test.YtopefgahppfkcaaDoorRecLayer
namespace Go.Proofs.YtopefgahppfkcaaDoor
open Go.RowKit
set_option linter.unusedVariables false
set_option linter.unusedSimpArgs false

structure Box0 (p : Prop) : Prop where
  out : p
structure Bas where
  st : Int
  A : Option Addr
  n : Nat
  c : Nat
  cs : List R2
  b : ByteArray
abbrev bval (st : Int) (A : Option Addr) (n c : Nat) (b : ByteArray) : Value := .agg #[.int .i64 st, .slice A n c, .string b]
structure IsBasket (w : World) (c0 c1 c2 : Value) (S : Bas) : Prop where
  e0 : c0 = .int .i64 S.st
  e1 : c1 = .slice S.A S.n S.c
  e2 : c2 = .string S.b
  recs : IsRecs2 w S.A S.n S.cs
  bsz : S.b.size ≤ maxLen
  wf : (Lit.int .i64 S.st).wf = true
section
open Go.ChangeShapes Go.WideShapes Go.Deep
theorem isBasket_of_trod {H : Type} {enc : TypeId × Value → H} {P : Program} {W : World} {base : Nat} {spare : Nat → Bool} {held : Bool} {t e ts ti : TypeId} {f0 f1 : Field} {m : Nat} {c0 c1 c2 : Value} {y0 y1 y2 : DataW H × List MemPlace}
    (hi : P.underlying ti = some (.int .i64)) (ht : P.underlying t = some (.slice e)) (hst : P.underlying ts = some .string) (he : P.underlying e = some (.struct #[f0, f1])) (hone : oneCellFields P #[f0, f1] = true) (hC : P.cellsOf e = 2) (t0 : f0.type = ts) (t1 : f1.type = ti)
    (h0 : DataW.trod enc P W base spare held m ti [c0] = some y0) (h1 : DataW.trod enc P W base spare held m t [c1] = some y1) (h2 : DataW.trod enc P W base spare held m ts [c2] = some y2) : ∃ S, IsBasket W c0 c1 c2 S := by
  obtain ⟨z, e0, _, w0⟩ := DataW.trod_int hi h0
  obtain ⟨b, e2, _, w2⟩ := DataW.trod_string hst h2
  simp at e0 e2
  subst e0 e2
  obtain ⟨A, n, c, rfl⟩ : ∃ A n c, c1 = .slice A n c := by
    rcases open_slice ht h1 with ⟨hcs, _⟩ | ⟨a, l, c', mm, q, D, Pl, hcs, _⟩
    · simp at hcs; exact ⟨_, _, _, hcs⟩
    · simp at hcs; exact ⟨_, _, _, hcs⟩
  obtain ⟨cs, hcs⟩ := isRecs2_of_trod ht he hst hi hone hC t0 t1 (A := A) (n := n) (c := c) (by simpa [Value.cells] using h1)
  exact ⟨⟨z, A, n, c, cs, b⟩, rfl, rfl, rfl, hcs, w2, w0⟩
end
theorem szBasket_any (st : Int) (A : Option Addr) (n c : Nat) (b : ByteArray) (cs : List R2) (l : Int) (w : World) (h : Recs w A n cs) (hs : ∀ x ∈ cs, x.1.size ≤ maxLen) (hn : n ≤ maxLen) (hb : b.size ≤ maxLen) (l0 : 0 ≤ l) (l1 : l ≤ 1048576) : Calls Tryd.prog 11 #[bval st A n c b, .int .i64 l] w (SzLPost n l w) := by
  have HS := Box0.mk hs
  clear hs
  unfold maxLen at hb
  go_enter Tryd.func11, Tryd.ntmps11
  go_wp2_with fail
  refine (szLayerS_any A n c cs l _ (h.alloc _) HS.out hn l0 l1).mono ?_
  rintro e w1 ⟨v, rfl, hb1, v1, v2⟩
  have hB : Below w.heap.size w w1 := ((Below.refl w.heap.size w).alloc (Nat.le_refl _) _).trans (hb1.mono (by simp))
  obtain ⟨hc, hf⟩ := bcell hb1
  have hV := Box0.mk v2
  clear v2
  by_cases hv : v < 0
  · go_wp2_with fail
    go_ret
    exact ⟨_, rfl, hB, by omega, fun h => by omega⟩
  have hn2 : n ≤ 1048576 := hV.out (by omega)
  by_cases hv2 : v < b.size
  · go_wp2_with fail
    go_ret
    exact ⟨_, rfl, hB, by omega, fun _ => hn2⟩
  · go_wp2_with fail
    go_ret
    exact ⟨_, rfl, hB, by omega, fun _ => hn2⟩
theorem growS (w : World) (p o : Nat) (v : Value) : w.grownBy (w.setCell ⟨p, o, none⟩ v) (some p) :=
  ⟨by first | rfl | simp, by first | rfl | simp, by first | rfl | simp, by first | rfl | simp, fun i _ hne => Below.heap_setCell _ _ _ _ (fun e => hne (by simp [e]))⟩
/-- Block q holds three cells. -/
structure C3 (w : World) (q : Nat) (v0 v1 v2 : Value) : Prop where
  c0 : w.cell? ⟨q, 0, none⟩ = some v0
  c1 : w.cell? ⟨q, 1, none⟩ = some v1
  c2 : w.cell? ⟨q, 2, none⟩ = some v2
theorem C3.keep {w w' : World} {q : Nat} {v0 v1 v2 : Value} (h : C3 w q v0 v1 v2) (hb : Below w.heap.size w w') : C3 w' q v0 v1 v2 := ⟨keepc hb h.c0, keepc hb h.c1, keepc hb h.c2⟩
theorem C3.lt {w : World} {q : Nat} {v0 v1 v2 : Value} (h : C3 w q v0 v1 v2) : q < w.heap.size := World.block_lt_of_cell? _ _ h.c0
theorem C3.new (w : World) (v0 v1 v2 : Value) (t : TypeId) : C3 (w.alloc (.cells #[v0, v1, v2] t)) w.heap.size v0 v1 v2 := ⟨by go_cell, by go_cell, by go_cell⟩
theorem C3.alloc {w : World} {q : Nat} {v0 v1 v2 : Value} (h : C3 w q v0 v1 v2) (o : Obj) : C3 (w.alloc o) q v0 v1 v2 := h.keep ((Below.refl _ _).alloc (Nat.le_refl _) o)
theorem C3.drewN {w : World} {q : Nat} {v0 v1 v2 : Value} (h : C3 w q v0 v1 v2) (k : Nat) : C3 (w.drewN k) q v0 v1 v2 := ⟨h.c0, h.c1, h.c2⟩
theorem boxes2 (w : World) (s1 a1 b1 s2 a2 b2 : Value) (t : TypeId) : ∃ W, (w.alloc (.cells #[s1, a1, b1] t)).alloc (.cells #[s2, a2, b2] t) = W ∧ C3 W w.heap.size s1 a1 b1 ∧ C3 W (w.heap.size + 1) s2 a2 b2 ∧ Below w.heap.size w W := by
  refine ⟨_, rfl, (C3.new w s1 a1 b1 t).alloc _, ?_, by go_grown⟩
  have := C3.new (w.alloc (.cells #[s1, a1, b1] t)) s2 a2 b2 t
  simpa using this
theorem box1 (w : World) (s1 a1 b1 : Value) (t : TypeId) : ∃ W, w.alloc (.cells #[s1, a1, b1] t) = W ∧ C3 W w.heap.size s1 a1 b1 ∧ Below w.heap.size w W :=
  ⟨_, rfl, C3.new w s1 a1 b1 t, by go_grown⟩
def ToBasket (st : Int) (n : Nat) (b : ByteArray) (cs : List R2) (w : World) (e : Ending) (w' : World) : Prop :=
  ∃ X, e = .returned (bval st (some ⟨X, 0, none⟩) n n b) ∧ w.heap.size ≤ X ∧ X < w'.heap.size ∧ OwnR w' X (.slice (some ⟨X, 0, none⟩) n n) n cs ∧ Below w.heap.size w w'
theorem toBasket_any (st : Int) (A : Option Addr) (n c : Nat) (b : ByteArray) (cs : List R2) (w : World) (h : Recs w A n cs) (hn : n ≤ 1048576) : Calls Tryd.prog 13 #[bval st A n c b] w (ToBasket st n b cs w) := by
  go_enter Tryd.func13, Tryd.ntmps13
  go_wp2_with fail
  refine (toLayerS_any A n c cs _ (h.keep (by go_grown)) hn).mono ?_
  rintro e w1 ⟨rfl, hown, hb1⟩
  obtain ⟨hc, hf⟩ := bcell hb1
  have hz1 := hb1.size
  simp at hz1
  simp only [World.size_setCell, World.size_alloc] at hown
  have hX : w.heap.size + 1 + 1 + 1 < w1.heap.size := by
    obtain ⟨xs, ho, _⟩ := hown
    exact (World.ownsRow.lt ho (w.heap.size + 1 + 1 + 1) (by simp [Value.ownBlock])).2
  have HO := Box0.mk hown
  clear hown
  go_wp2_with fail
  refine bodyPost_ret (v := bval st (some ⟨w.heap.size + 1 + 1 + 1, 0, none⟩) n n b) (by simp [results, Tryd.results13, go_sem, hc]) rfl ⟨_, rfl, by omega, by simp; omega, ?_, ?_⟩
  · have hg : ∀ (W : World) (q o : Nat) (v : Value), q < w.heap.size + 1 + 1 + 1 → OwnR W (w.heap.size + 1 + 1 + 1) (.slice (some ⟨w.heap.size + 1 + 1 + 1, 0, none⟩) n n) n cs → OwnR (W.setCell ⟨q, o, none⟩ v) (w.heap.size + 1 + 1 + 1) (.slice (some ⟨w.heap.size + 1 + 1 + 1, 0, none⟩) n n) n cs := fun W q o v hq ho =>
      ho.kept (row := some q) (growS W q o v) (by simp [Value.ownBlock]; omega)
    exact hg _ _ _ _ (by omega) (hg _ _ _ _ (by omega) (hg _ _ _ _ (by omega) (hg _ _ _ _ (by omega) (hg _ _ _ _ (by omega) HO.out))))
  · have hB : Below w.heap.size w w1 := Below.trans (by go_grown) (hb1.mono (by simp; omega))
    go_grown
theorem eqBasket_same (st : Int) (A B : Option Addr) (n c d : Nat) (b : ByteArray) (cs : List R2) (w : World) (h : Recs w A n cs) (g : Recs w B n cs) (hn : n ≤ 1048576) : Calls Tryd.prog 15 #[bval st A n c b, bval st B n d b] w fun e w' =>
    e = .returned (.bool true) ∧ Below w.heap.size w w' := by
  have t1 : (st != st) = false := by simp
  have t2 : (b.toList == b.toList) = true := by simp
  have t3 : decide (cs = cs) = true := by simp
  go_enter Tryd.func15, Tryd.ntmps15
  go_wp2_with fail
  refine (eqLayerS_any A B n n c d cs cs _ (h.keep (by go_grown)) (g.keep (by go_grown)) hn hn).mono ?_
  rintro e w1 ⟨rfl, hb1⟩
  obtain ⟨hc, hf⟩ := bcell hb1
  have hB : Below w.heap.size w w1 := Below.trans (by go_grown) (hb1.mono (by simp; omega))
  go_wp2_with fail
  go_ret
  exact ⟨rfl, hB⟩
end Go.Proofs.YtopefgahppfkcaaDoor
