/- MergeLayers: plain facts, and a basket of the call's own with its layers. -/
import Derived.Test.YtopefgahppfkcaaDoorMrg2
import Derived.StillTailTactics
import Derived.Deep.RegionLaw
import Derived.Deep.AppendLies
namespace Go.Proofs.YtopefgahppfkcaaDoor
open Go.RowKit
set_option linter.unusedVariables false
set_option linter.unusedSimpArgs false

/-- One layer more. -/
def stepM (acc : List R2) (x : R2) : List R2 :=
  match acc[acc.length - 1]? with
  | some y => if y.1 = x.1 then acc.set (acc.length - 1) (y.1, y.2 + x.2) else acc ++ [x]
  | none => acc ++ [x]
def mrg (cs : List R2) : List R2 := cs.foldl stepM []
theorem mrg_snoc {cs : List R2} {k : Nat} {x : R2} (h : cs[k]? = some x) : mrg (cs.take (k + 1)) = stepM (mrg (cs.take k)) x := by
  have e : cs.take (k + 1) = cs.take k ++ [x] := by rw [List.take_add_one, h]; rfl
  unfold mrg
  rw [e, List.foldl_append]; rfl
theorem stepM_nil (x : R2) : stepM [] x = [x] := rfl
theorem stepM_same {acc : List R2} {m : Nat} {x y : R2} (hl : acc.length = m) (hy : acc[m - 1]? = some y) (e : y.1 = x.1) : stepM acc x = acc.set (m - 1) (y.1, y.2 + x.2) := by
  unfold stepM; rw [hl, hy]; exact if_pos e
theorem stepM_more {acc : List R2} {m : Nat} {x y : R2} (hl : acc.length = m) (hy : acc[m - 1]? = some y) (e : ¬ y.1 = x.1) : stepM acc x = acc ++ [x] := by
  unfold stepM; rw [hl, hy]; exact if_neg e
structure Mbd (acc : List R2) (k : Nat) : Prop where
  len : acc.length ≤ k
  at_ : ∀ (j : Nat) (z : R2), acc[j]? = some z → (0 ≤ z.2 ∧ z.2 ≤ 100 * k) ∧ z.1.size ≤ 12
theorem Mbd.same {acc : List R2} {k m : Nat} {x y : R2} (h : Mbd acc k) (hl : acc.length = m) (hy : acc[m - 1]? = some y) (hx : 1 ≤ x.2 ∧ x.2 ≤ 100) : Mbd (acc.set (m - 1) (y.1, y.2 + x.2)) (k + 1) := by
  refine ⟨by have := h.len; simp; omega, fun j z hz => ?_⟩
  obtain ⟨h1, h2⟩ := h.at_ _ _ hy
  by_cases hj : m - 1 = j
  · subst hj
    have hlt := (List.getElem?_eq_some_iff.1 hy).1
    rw [List.getElem?_set_self hlt] at hz
    injection hz with hz
    subst hz
    exact ⟨by simp only; omega, h2⟩
  · rw [List.getElem?_set_ne hj] at hz
    obtain ⟨h3, h4⟩ := h.at_ _ _ hz
    exact ⟨by omega, h4⟩
theorem Mbd.more {acc : List R2} {k : Nat} {x : R2} (h : Mbd acc k) (hx : 1 ≤ x.2 ∧ x.2 ≤ 100) (hs : x.1.size ≤ 12) : Mbd (acc ++ [x]) (k + 1) := by
  refine ⟨by have := h.len; simp; omega, fun j z hz => ?_⟩
  by_cases hj : j < acc.length
  · rw [List.getElem?_append_left hj] at hz
    obtain ⟨h3, h4⟩ := h.at_ _ _ hz
    exact ⟨by omega, h4⟩
  · rw [List.getElem?_append_right (by omega)] at hz
    have hj0 := (List.getElem?_eq_some_iff.1 hz).1
    simp at hj0
    rw [show j - acc.length = 0 by omega] at hz
    injection hz with hz
    subst hz
    exact ⟨by omega, hs⟩
/-- Block q is a basket of the call's own. -/
structure Bm (w : World) (base q : Nat) (st : Int) (b : ByteArray) (m : Nat) (acc : List R2) : Prop where
  c0 : w.cell? ⟨q, 0, none⟩ = some (.int .i64 st)
  c1 : ∃ C c, w.cell? ⟨q, 1, none⟩ = some (.slice C m c) ∧ OwnR w base (.slice C m c) m acc ∧ blk C ≠ some q
  c2 : w.cell? ⟨q, 2, none⟩ = some (.string b)
  z1 : w.frozen? ⟨q, 1, none⟩ = false
  lo : base ≤ q
theorem Bm.lt {w : World} {base q : Nat} {st : Int} {b : ByteArray} {m : Nat} {acc : List R2} (h : Bm w base q st b m acc) : q < w.heap.size := World.block_lt_of_cell? _ _ h.c0
theorem Bm.keep {w w' : World} {base q : Nat} {st : Int} {b : ByteArray} {m : Nat} {acc : List R2} (h : Bm w base q st b m acc) (hb : Below w.heap.size w w') : Bm w' base q st b m acc := by
  obtain ⟨C, c, h1, h2, h3⟩ := h.c1
  have hlt := h.lt
  exact ⟨keepc hb h.c0, ⟨C, c, keepc hb h1, OwnR.kept h2 (grown_below hb none) (by cases hv : (Value.slice C m c).ownBlock <;> simp), h3⟩, keepc hb h.c2, (hb.frozen (p := ⟨q, 1, none⟩) hlt).trans h.z1, h.lo⟩
theorem ownR_snoc {w : World} {base m cap g : Nat} {xs : List Value} {acc : List R2} {x : R2} (h : w.ownsRow base 56 2 (.slice (some ⟨g, 0, none⟩) (m + 1) cap) (m + 1) (xs ++ [.string x.1, .int .i64 x.2])) (hl : acc.length = m) (hr : RowR xs acc m) : OwnR w base (.slice (some ⟨g, 0, none⟩) (m + 1) cap) (m + 1) (acc ++ [x]) := by
  have hxs : xs.length = m * 2 := by have := h.1; simp at this; omega
  refine ⟨_, h, by simp [hl], fun j y hj hy => ?_⟩
  by_cases hjq : j < m
  · rw [List.getElem?_append_left (by omega)] at hy
    obtain ⟨a, b⟩ := hr j y hjq hy
    exact ⟨by rw [List.getElem?_append_left (by omega)]; exact a, by rw [List.getElem?_append_left (by omega)]; exact b⟩
  · obtain rfl : j = m := by omega
    rw [List.getElem?_append_right (by omega)] at hy
    simp [hl] at hy
    subst hy
    refine ⟨?_, ?_⟩
    · rw [List.getElem?_append_right (by omega), show j * 2 - xs.length = 0 by omega]; rfl
    · rw [List.getElem?_append_right (by omega), show j * 2 + 1 - xs.length = 1 by omega]; rfl
theorem bm_app {w0 w1 : World} {base q g m c cap : Nat} {st : Int} {b : ByteArray} {C : Option Addr} {acc' : List R2} (hq : q < w0.heap.size) (c0 : w0.cell? ⟨q, 0, none⟩ = some (.int .i64 st)) (c1 : w0.cell? ⟨q, 1, none⟩ = some (.slice C m c)) (c2 : w0.cell? ⟨q, 2, none⟩ = some (.string b))
    (z1 : w0.frozen? ⟨q, 1, none⟩ = false) (lo : base ≤ q) (hne : blk C ≠ some q)
    (ho : OwnR w1 base (.slice (some ⟨g, 0, none⟩) (m + 1) cap) (m + 1) acc') (hg : w0.grownBy w1 (Value.slice C m c).ownBlock) (hat : (Value.slice C m c).ownBlock = some g ∨ g = w0.heap.size) :
    w1.cell? ⟨q, 1, none⟩ = some (.slice C m c) ∧ w1.frozen? ⟨q, 1, none⟩ = false ∧ Bm (w1.setCell ⟨q, 1, none⟩ (.slice (some ⟨g, 0, none⟩) (m + 1) cap)) base q st b (m + 1) acc' := by
  rw [blk_own] at hg hat
  have hn : ∀ o : Nat, some (⟨q, o, none⟩ : Addr).block ≠ blk C := fun o e => hne e.symm
  have k0 := hg.cell c0 (hn 0)
  have k1 := hg.cell c1 (hn 1)
  have k2 := hg.cell c2 (hn 2)
  have f1 := (hg.frozen_far _ hq (hn 1)).trans z1
  have hgq : g ≠ q := by
    rintro rfl
    rcases hat with h | h
    · exact hne h
    · omega
  refine ⟨k1, f1, ?_⟩
  refine ⟨(World.cell?_setCell_other _ _ _ _ (by simp)).trans k0, ⟨some ⟨g, 0, none⟩, cap, World.cell?_setCell_same _ _ _ k1, ?_, by simpa [blk] using hgq⟩, (World.cell?_setCell_other _ _ _ _ (by simp)).trans k2, by simpa using f1, lo⟩
  refine OwnR.kept (row := some q) ho (growS w1 q 1 _) ?_
  rw [blk_own]; right; simpa [blk] using hgq
/-- The last layer's rounds are written. -/
theorem bm_poke {w : World} {base q g m c : Nat} {st : Int} {b : ByteArray} {acc : List R2} {y : R2} {v : Int} (hm : 0 < m) (c0 : w.cell? ⟨q, 0, none⟩ = some (.int .i64 st)) (c1 : w.cell? ⟨q, 1, none⟩ = some (.slice (some ⟨g, 0, none⟩) m c)) (c2 : w.cell? ⟨q, 2, none⟩ = some (.string b)) (z1 : w.frozen? ⟨q, 1, none⟩ = false) (lo : base ≤ q) (hne : g ≠ q)
    (ho : OwnR w base (.slice (some ⟨g, 0, none⟩) m c) m acc) (hy : acc[m - 1]? = some y) : Bm (w.setCell ⟨g, (m - 1) * 2 + 1, none⟩ (.int .i64 v)) base q st b m (acc.set (m - 1) (y.1, v)) := by
  obtain ⟨xs, hx, hl, hr⟩ := ho
  have hxl := hx.1
  refine ⟨(World.cell?_setCell_other _ _ _ _ (by simp)).trans c0, ⟨some ⟨g, 0, none⟩, c, (World.cell?_setCell_other _ _ _ _ (by simp)).trans c1, ?_, by simpa [blk] using hne⟩, (World.cell?_setCell_other _ _ _ _ (by simp)).trans c2, by simpa using z1, lo⟩
  refine ⟨_, (World.ownsRow.stored hx ((m - 1) * 2 + 1) (.int .i64 v)).1, by simp [hl], fun j z hj hz => ?_⟩
  obtain ⟨a0, a1⟩ := hr (m - 1) y (by omega) hy
  by_cases hjm : m - 1 = j
  · subst hjm
    rw [List.getElem?_set_self (by omega)] at hz
    injection hz with hz
    subst hz
    refine ⟨?_, ?_⟩
    · rw [List.getElem?_set_ne (by omega)]; exact a0
    · rw [List.getElem?_set_self (by omega)]
  · rw [List.getElem?_set_ne hjm] at hz
    obtain ⟨b0, b1⟩ := hr j z hj hz
    refine ⟨?_, ?_⟩
    · rw [List.getElem?_set_ne (by omega)]; exact b0
    · rw [List.getElem?_set_ne (by omega)]; exact b1
end Go.Proofs.YtopefgahppfkcaaDoor
