/- PackLevel of the reference: the search. -/
import Derived.Test.YtkkipkmjhakknaaPackF
import Derived.Test.YtkkipkmjhakknaaHand3
namespace Go.Proofs.Ytkkipkmjhakknaa
open Go.RowKit
set_option linter.unusedVariables false
set_option linter.unusedSimpArgs false

/-- Block p holds a search. -/
structure WkB (w : World) (p : Nat) (W P : Value) (h : Int) (B : Value) (l : Int) : Prop where
  c0 : w.cell? ⟨p, 0, none⟩ = some W
  c1 : w.cell? ⟨p, 1, none⟩ = some P
  c2 : w.cell? ⟨p, 2, none⟩ = some (.int .i64 h)
  c3 : w.cell? ⟨p, 3, none⟩ = some B
  c4 : w.cell? ⟨p, 4, none⟩ = some (.int .i64 l)
  z3 : w.frozen? ⟨p, 3, none⟩ = false
  z4 : w.frozen? ⟨p, 4, none⟩ = false
theorem WkB.lt {w : World} {p : Nat} {W P : Value} {h : Int} {B : Value} {l : Int} (g : WkB w p W P h B l) : p < w.heap.size := World.block_lt_of_cell? _ _ g.c0
theorem WkB.keep {w w' : World} {p : Nat} {W P : Value} {h : Int} {B : Value} {l : Int} (g : WkB w p W P h B l) (hb : Below w.heap.size w w') : WkB w' p W P h B l :=
  ⟨keepc hb g.c0, keepc hb g.c1, keepc hb g.c2, keepc hb g.c3, keepc hb g.c4, (hb.frozen (p := ⟨p, 3, none⟩) g.lt).trans g.z3, (hb.frozen (p := ⟨p, 4, none⟩) g.lt).trans g.z4⟩
theorem WkB.set {w : World} {p : Nat} {W P : Value} {h : Int} {B B' : Value} {l l' : Int} (g : WkB w p W P h B l) : WkB ((w.setCell ⟨p, 3, none⟩ B').setCell ⟨p, 4, none⟩ (.int .i64 l')) p W P h B' (l') :=
  ⟨by rw [World.cell?_setCell_other _ _ _ _ (by simp), World.cell?_setCell_other _ _ _ _ (by simp)]; exact g.c0,
   by rw [World.cell?_setCell_other _ _ _ _ (by simp), World.cell?_setCell_other _ _ _ _ (by simp)]; exact g.c1,
   by rw [World.cell?_setCell_other _ _ _ _ (by simp), World.cell?_setCell_other _ _ _ _ (by simp)]; exact g.c2,
   by rw [World.cell?_setCell_other _ _ _ _ (by simp), World.cell?_setCell_same _ _ _ g.c3],
   by rw [World.cell?_setCell_same _ _ _ (u := .int .i64 l) (by rw [World.cell?_setCell_other _ _ _ _ (by simp)]; exact g.c4)],
   by simpa using g.z3, by simpa using g.z4⟩
theorem l00SizeA_eq (n v : Int) (w : World) (h0 : -1000000000000 ≤ n) (h1 : n ≤ 1000000000000) (hv : absI n = v) : Calls Try.prog 74 #[.int .i64 n] w fun e w' => e = .returned (.int .i64 v) ∧ w' = w := by
  subst hv
  exact (l00Size_any n w (by omega) (by omega)).mono fun _ _ ⟨a, b⟩ => ⟨by rw [a, absI_nat], b.symm⟩
/-- A copy of a slice of integers. -/
theorem l00Own_any (A : Option Addr) (n c : Nat) (zs : List Int) (w : World) (h : Ints w A n zs) (hn : n ≤ 1048576) : Calls Try.prog 58 #[.slice A n c] w fun e w' =>
    ∃ C p, e = .returned (.slice C n p) ∧ OwnI w' w.heap.size (.slice C n p) n zs ∧ Below w.heap.size w w' := by
  obtain ⟨i0, hi0, hz0, hz1, hz2⟩ := info_parts info_i64
  have HL := Lib.hid h.1
  have hb0 : Below w.heap.size w (w.alloc (.cells #[] 2)) := (Below.refl _ _).alloc (Nat.le_refl _) _
  rcases Nat.eq_zero_or_pos n with rfl | hp
  · have hz : zs = [] := List.eq_nil_of_length_eq_zero HL.out
    subst hz
    cases A with
    | none =>
      go_enter Try.func58, Try.ntmps58
      go_wp2
      go_ret
      exact ⟨_, _, rfl, World.ownsRow_made _ _ _ (by simp) (by unfold maxLen; omega) (by simp), by (repeat' (first | (with_reducible exact Below.refl _ _) | (with_reducible assumption) | (with_reducible refine Below.drew ?_) | (with_reducible refine below_drewN ?_ _) | (with_reducible refine Below.setCell ?_ ?_ _) | (with_reducible refine Below.alloc ?_ ?_ _) | go_size))⟩
    | some a =>
      go_enter Try.func58, Try.ntmps58
      go_wp2
      go_ret
      exact ⟨_, _, rfl, World.ownsRow_made _ _ _ (by simp) (by unfold maxLen; omega) (by simp), by (repeat' (first | (with_reducible exact Below.refl _ _) | (with_reducible assumption) | (with_reducible refine Below.drew ?_) | (with_reducible refine below_drewN ?_ _) | (with_reducible refine Below.setCell ?_ ?_ _) | (with_reducible refine Below.alloc ?_ ?_ _) | go_size))⟩
  obtain ⟨b, off, rfl, hlt, hc⟩ := h.2 hp
  have HC := Lib.hid hc
  clear hc
  go_enter Try.func58, Try.ntmps58
  go_wp2_with (at_builtin; refine wpList_append_own _ rfl _ _ 24 rfl w.heap.size 2 i0 (.int .i64 0) 1 8 Try.underlying24 hi0 hz0 hz1 hz2 rfl (by decide) _ _ _ rfl (World.ownsRow_made w #[] 0 (Nat.le_refl _) (Nat.zero_le _) rfl) ⟨b, off, none⟩ n c (zs.map (Value.int .i64)) rfl ?qc1 ?qc2 ?qc3 ?qc4 ?qc5 ?qc6 ?_)
  case qc1 => simp [HL.out]
  case qc2 =>
    intro j u hj
    rw [List.getElem?_map] at hj
    obtain ⟨z, hz, rfl⟩ := Option.map_eq_some_iff.1 hj
    rw [Addr.add_lit]
    exact keepc hb0 (HC.out j z hz)
  case qc3 => intro u hu; obtain ⟨x, _, rfl⟩ := List.mem_map.1 hu; rfl
  case qc4 => unfold maxLen; omega
  case qc5 => omega
  case qc6 => simp
  intro v' w1 hown hgrow hnil
  go_wp2
  go_ret
  have hown' : OwnI w1 w.heap.size v' n zs := by simpa using hown
  have hBf := hb0.grown hgrow (by simp) (by intro k hk; simp [Value.ownBlock] at hk; omega)
  rcases hown'.2 with ⟨h1, h2⟩ | ⟨g, cap, cur, hv, _⟩
  · omega
  · subst hv
    exact ⟨_, _, rfl, hown', hBf⟩
end Go.Proofs.Ytkkipkmjhakknaa
