/- Contracts of slices.Clone and slices.Delete at goods. -/
import Derived.Test.YtkkipkmjhakknaaGoodS
import Derived.Lib.SliceRun
import Derived.Deep.RegionLaw
import Derived.WalkSmall
namespace Go.Proofs.Ytkkipkmjhakknaa
open Go.RowKit
set_option linter.unusedVariables false
set_option linter.unusedSimpArgs false

/-- The cells of records. -/
def flatR : List R2 → List Value
  | [] => []
  | x :: cs => .int .i64 x.1 :: .int .i64 x.2 :: flatR cs
theorem flatR_len : ∀ cs : List R2, (flatR cs).length = cs.length * 2
  | [] => rfl
  | x :: cs => by simp only [flatR, List.length_cons, flatR_len cs]; omega
theorem flatR_at : ∀ {cs : List R2} {j : Nat} {x : R2}, cs[j]? = some x → (flatR cs)[j * 2]? = some (.int .i64 x.1) ∧ (flatR cs)[j * 2 + 1]? = some (.int .i64 x.2)
  | [], j, x, h => by simp at h
  | y :: cs, 0, x, h => by simp at h; subst h; exact ⟨rfl, rfl⟩
  | y :: cs, j + 1, x, h => by
    have h1 := flatR_at (cs := cs) (j := j) (x := x) (by simpa using h)
    rw [show (j + 1) * 2 = j * 2 + 1 + 1 by omega]
    exact ⟨h1.1, h1.2⟩
theorem flatR_row (cs : List R2) (n : Nat) : RowR (flatR cs) cs n := fun j x _ h => flatR_at h
theorem flatR_cut {cs : List R2} {j : Nat} {u : Value} (h : (flatR cs)[j]? = some u) : ∃ x, cs[j / 2]? = some x ∧ ((j % 2 = 0 ∧ u = .int .i64 x.1) ∨ (j % 2 = 1 ∧ u = .int .i64 x.2)) := by
  have hj := (List.getElem?_eq_some_iff.1 h).1
  rw [flatR_len] at hj
  have hx : cs[j / 2]? = some (cs[j / 2]'(by omega)) := List.getElem?_eq_getElem _
  refine ⟨_, hx, ?_⟩
  obtain ⟨h0, h1⟩ := flatR_at hx
  rcases Nat.mod_two_eq_zero_or_one j with e | e
  · left
    rw [show j / 2 * 2 = j by omega, h] at h0
    exact ⟨e, by injection h0⟩
  · right
    rw [show j / 2 * 2 + 1 = j by omega, h] at h1
    exact ⟨e, by injection h1⟩
theorem flatR_of {xs : List Value} {cs : List R2} {n : Nat} (hl : xs.length = n * 2) (hc : cs.length = n) (hr : RowR xs cs n) : xs = flatR cs := by
  apply List.ext_getElem?
  intro j
  by_cases hj : j < n * 2
  · have hx : cs[j / 2]? = some (cs[j / 2]'(by omega)) := List.getElem?_eq_getElem _
    obtain ⟨a0, a1⟩ := hr (j / 2) _ (by omega) hx
    obtain ⟨b0, b1⟩ := flatR_at hx
    rcases Nat.mod_two_eq_zero_or_one j with e | e
    · rw [show j / 2 * 2 = j by omega] at a0 b0; rw [a0, b0]
    · rw [show j / 2 * 2 + 1 = j by omega] at a1 b1; rw [a1, b1]
  · rw [List.getElem?_eq_none (by omega), List.getElem?_eq_none (by rw [flatR_len]; omega)]
theorem flatR_append : ∀ (a b : List R2), flatR (a ++ b) = flatR a ++ flatR b
  | [], b => rfl
  | x :: a, b => by simp only [List.cons_append, flatR, flatR_append a b]
theorem flatR_drop : ∀ (cs : List R2) (k : Nat), flatR (cs.drop k) = (flatR cs).drop (k * 2)
  | cs, 0 => rfl
  | [], k + 1 => by simp [flatR]
  | x :: cs, k + 1 => by rw [List.drop_succ_cons, flatR_drop cs k, show (k + 1) * 2 = k * 2 + 1 + 1 by omega]; rfl
theorem flatR_take : ∀ (cs : List R2) (k : Nat), flatR (cs.take k) = (flatR cs).take (k * 2)
  | cs, 0 => by simp [flatR]
  | [], k + 1 => by simp [flatR]
  | x :: cs, k + 1 => by rw [List.take_succ_cons, flatR, flatR_take cs k, show (k + 1) * 2 = k * 2 + 1 + 1 by omega]; rfl
theorem OwnR.own {w : World} {base : Nat} {v : Value} {n : Nat} {cs : List R2} (h : OwnR w base v n cs) : w.ownsRow base 37 2 v n (flatR cs) := by
  obtain ⟨xs, h, hl, hr⟩ := h
  rw [← flatR_of h.1 hl hr]
  exact h
theorem ownR_of {w : World} {base : Nat} {v : Value} {n : Nat} {cs : List R2} (h : w.ownsRow base 37 2 v n (flatR cs)) : OwnR w base v n cs :=
  ⟨_, h, by have := h.1; rw [flatR_len] at this; omega, flatR_row _ _⟩
/-- Cells put over an own row. -/
theorem own_setCells {w : World} {base g n c size : Nat} {e : TypeId} : ∀ (vs : List Value) (o : Nat) {w : World} {xs : List Value}, w.ownsRow base e size (.slice (some ⟨g, 0, none⟩) n c) n xs → o + vs.length ≤ xs.length → (w.setCells g o vs).ownsRow base e size (.slice (some ⟨g, 0, none⟩) n c) n (xs.take o ++ vs ++ xs.drop (o + vs.length)) ∧ w.grownBy (w.setCells g o vs) (some g)
  | [], o, w, xs, h, _ => by
    rw [World.setCells]
    exact ⟨by simpa using h, World.grownBy.refl _ _⟩
  | v :: vs, o, w, xs, h, hl => by
    simp only [List.length_cons] at hl
    rw [World.setCells]
    obtain ⟨h1, g1⟩ := World.ownsRow.stored h o v
    obtain ⟨h2, g2⟩ := own_setCells (w := w) vs (o + 1) h1 (by simp; omega)
    refine ⟨?_, World.grownBy.trans' g1 g2⟩
    have e1 : (xs.set o v).take (o + 1) ++ vs ++ (xs.set o v).drop (o + 1 + vs.length) = xs.take o ++ v :: vs ++ xs.drop (o + (vs.length + 1)) := by
      have t1 : (xs.set o v).take (o + 1) = xs.take o ++ [v] := by
        rw [List.take_add_one, List.take_set, List.set_eq_of_length_le (by simp; omega), List.getElem?_set_self (by omega)]; rfl
      rw [t1, List.drop_set_of_lt (by omega), show o + 1 + vs.length = o + (vs.length + 1) by omega]
      simp
    rw [e1] at h2
    simpa using h2
theorem run_clear_one (w : World) (b o c : Nat) (ty : TypeId) (hc : ∀ j, j < 2 → (w.cell? ⟨b, o + j, none⟩).isSome = true) (hf : ∀ j, j < 2 → w.frozen? ⟨b, o + j, none⟩ = false) :
    (Builtin.clear_ #[31] ty #[.slice (some ⟨b, o, none⟩) 1 c]).run Try.prog w = .ok (.tuple #[]) (w.setCells b o [.int .i64 0, .int .i64 0]) := by
  have hst := run_storeCells_cells (P := Try.prog) b o [.int .i64 0, .int .i64 0] 0 w (by simpa using hc) (by simpa using hf) (by intro v hv'; simp at hv'; subst hv'; rfl)
  simp only [Nat.add_zero] at hst
  have hzc : (Builtin.zeroCells (Value.agg #[.int .i64 0, .int .i64 0]).cells 1).toList = [.int .i64 0, .int .i64 0] := by first | rfl | (simp [Builtin.zeroCells, Value.cells]; done) | kernel_rfl
  simp [Builtin.clear_, run_underlying Try.underlying31, Try.zeroValue37, hzc, hst]
theorem cloneGood_any (A : Option Addr) (n c : Nat) (cs : List R2) (w : World) (h : Recs w A n cs) (hp : 0 < n) (hn : n ≤ 1048576) : Calls Try.prog 65 #[.slice A n c] w fun e w' =>
    ∃ g cap, e = .returned (.slice (some ⟨g, 0, none⟩) n cap) ∧ OwnR w' w.heap.size (.slice (some ⟨g, 0, none⟩) n cap) n cs ∧ Below w.heap.size w w' := by
  obtain ⟨i0, hi0, hz0, hz1, hz2⟩ := info_parts info_R2
  obtain ⟨b, off, rfl, hlt, hc⟩ := h.2 hp
  have q22 : ∀ (w : World) (a : Option Addr) (n c n' c' : Nat), (binOp .eql 31 (.slice a n c) (.slice none n' c')).run Try.prog w = .ok (.bool a.isNone) w := fun w a n c n' c' => Lib.run_eql_slice_nil w _ _ a n c n' c' Try.underlying31
  have HL := Lib.hid h.1
  have HC := Lib.hid hc
  have hb0 : Below w.heap.size w (w.alloc (.cells #[] 37)) := (Below.refl _ _).alloc (Nat.le_refl _) _
  clear hc
  go_enter Try.func65, Try.ntmps65
  go_wp2_with (at_builtin; refine wpList_append_own _ rfl _ _ 31 rfl w.heap.size 37 i0 (.agg #[.int .i64 0, .int .i64 0]) 2 16 Try.underlying31 hi0 hz0 hz1 hz2 rfl (by decide) _ _ _ rfl (World.ownsRow_made w #[] 0 (Nat.le_refl _) (Nat.zero_le _) rfl) ⟨b, off, none⟩ n c (flatR cs) rfl ?qc1 ?qc2 ?qc3 ?qc4 ?qc5 ?qc6 ?_)
  case qc1 => rw [flatR_len, HL.out]
  case qc2 =>
    intro j u hj
    obtain ⟨x, hx, hu⟩ := flatR_cut hj
    obtain ⟨a0, a1⟩ := HC.out _ _ hx
    rw [Addr.add_lit]
    rcases hu with ⟨e, rfl⟩ | ⟨e, rfl⟩
    · rw [show off + j / 2 * 2 = off + j by omega] at a0; exact keepc hb0 a0
    · rw [show off + j / 2 * 2 + 1 = off + j by omega] at a1; exact keepc hb0 a1
  case qc3 =>
    intro u hu
    obtain ⟨j, hj, e⟩ := List.mem_iff_getElem.1 hu
    obtain ⟨x, _, h2⟩ := flatR_cut (show (flatR cs)[j]? = some u by rw [List.getElem?_eq_getElem hj, e])
    rcases h2 with ⟨_, rfl⟩ | ⟨_, rfl⟩ <;> rfl
  case qc4 => unfold maxLen; omega
  case qc5 => omega
  case qc6 => simp
  intro v' w1 hown hgrow hnil
  go_wp2
  go_ret
  have hown' : w1.ownsRow w.heap.size 37 2 v' n (flatR cs) := by simpa using hown
  have hBf := hb0.grown hgrow (by simp) (by intro k hk; simp [Value.ownBlock] at hk; omega)
  rcases hown'.2 with ⟨h1, h2⟩ | ⟨g, cap, cur, hv, _⟩
  · omega
  · subst hv
    exact ⟨_, _, rfl, ownR_of hown', hBf⟩
end Go.Proofs.Ytkkipkmjhakknaa
