/- Contracts of the source of choices: l00From, next, pick, one, among. -/
import Derived.Test.YtkkipkmjhakknaaIntR
import Derived.Maps.AppendAt
import Derived.Deep.AppendLies
import Derived.Laws.BitsLemmas
import Derived.Laws.Bits64
namespace Go.Proofs.Ytkkipkmjhakknaa
open Go.RowKit
set_option linter.unusedVariables false
set_option linter.unusedSimpArgs false

/-- The slice A, n reads as bytes that lie below block base. -/
def Bytes (w : World) (base : Nat) (A : Option Addr) (n : Nat) : Prop :=
  n ≤ maxLen ∧ (0 < n → ∃ b off, A = some ⟨b, off, none⟩ ∧ b < base ∧ ∀ j : Nat, j < n → ∃ x : Int, w.cell? ⟨b, off + j, none⟩ = some (.int .u8 x) ∧ 0 ≤ x ∧ x ≤ 255)
theorem bytes_of {w : World} {A : Option Addr} {n : Nat} {zs : List Int} (h : IsInts .u8 w A n zs) : Bytes w w.heap.size A n := by
  refine ⟨h.1, fun hn => ?_⟩
  obtain ⟨b, off, e, hlt, hc⟩ := h.2.2.1 hn
  refine ⟨b, off, e, hlt, fun j hj => ?_⟩
  have hz : zs[j]? = some (zs[j]'(by rw [h.2.1]; exact hj)) := List.getElem?_eq_getElem _
  have hw := h.2.2.2 _ (List.mem_of_getElem? hz)
  refine ⟨_, hc j _ hz, ?_⟩
  simp [Lit.wf, IntKind.min, IntKind.max, IntKind.bits, IntKind.signed] at hw
  omega
theorem Bytes.keep {w w' : World} {base : Nat} {A : Option Addr} {n : Nat} (h : Bytes w base A n) (hb : Below base w w') : Bytes w' base A n :=
  ⟨h.1, fun hn => by
    obtain ⟨b, off, e, hlt, hc⟩ := h.2 hn
    exact ⟨b, off, e, hlt, fun j hj => by
      obtain ⟨x, hx, h0⟩ := hc j hj
      exact ⟨x, (hb.cell (p := ⟨b, off + j, none⟩) hlt).trans hx, h0⟩⟩⟩
/-- Block p is a source that has been asked k times at most. -/
structure Src (w : World) (base p k : Nat) : Prop where
  lo : base ≤ p
  src : ∃ (A : Option Addr) (n c at_ : Nat) (s : Int), Bytes w base A n ∧ at_ ≤ k ∧ w.cell? ⟨p, 0, none⟩ = some (.slice A n c) ∧ w.cell? ⟨p, 1, none⟩ = some (.int .i64 at_) ∧ w.cell? ⟨p, 2, none⟩ = some (.int .u64 s) ∧ w.frozen? ⟨p, 1, none⟩ = false ∧ w.frozen? ⟨p, 2, none⟩ = false
theorem Src.lt {w : World} {base p k : Nat} (h : Src w base p k) : p < w.heap.size := by
  obtain ⟨A, n, c, a, s, _, _, h0, _⟩ := h.src
  exact World.block_lt_of_cell? _ _ h0
theorem Src.keep {w w' : World} {base p k : Nat} (h : Src w base p k) (hb : Below w.heap.size w w') : Src w' base p k := by
  obtain ⟨A, n, c, a, s, hy, ha, h0, h1, h2, h3, h4⟩ := h.src
  have hlt := h.lt
  exact ⟨h.lo, A, n, c, a, s, hy.keep (hb.mono (by have := h.lo; omega)), ha, keepc hb h0, keepc hb h1, keepc hb h2, (hb.frozen (p := ⟨p, 1, none⟩) hlt).trans h3, (hb.frozen (p := ⟨p, 2, none⟩) hlt).trans h4⟩
theorem Src.grown {w w' : World} {base p k : Nat} {r : Option Nat} (h : Src w base p k) (hg : w.grownBy w' r) (hr : ∀ g, r = some g → base ≤ g ∧ g ≠ p) : Src w' base p k := by
  obtain ⟨A, n, c, a, s, hy, ha, h0, h1, h2, h3, h4⟩ := h.src
  have hlt := h.lt
  have hne : ∀ o : Nat, some (⟨p, o, none⟩ : Addr).block ≠ r := fun o e => (hr p e.symm).2 rfl
  have hbl : Below base w w' := (Below.refl _ _).grown hg (by have := h.lo; omega) (fun g e => (hr g e).1)
  exact ⟨h.lo, A, n, c, a, s, hy.keep hbl, ha, hg.cell h0 (hne 0), hg.cell h1 (hne 1), hg.cell h2 (hne 2), (hg.frozen_far _ hlt (hne 1)).trans h3, (hg.frozen_far _ hlt (hne 2)).trans h4⟩
theorem Src.mono {w : World} {base p k m : Nat} (h : Src w base p k) (hk : k ≤ m) : Src w base p m := by
  obtain ⟨A, n, c, a, s, hy, ha, g⟩ := h.src
  exact ⟨h.lo, _, _, _, _, _, hy, by omega, g⟩
theorem grown_setCell (w : World) (p o : Nat) (v : Value) : w.grownBy (w.setCell ⟨p, o, none⟩ v) (some p) :=
  ⟨by first | rfl | simp, by first | rfl | simp, by first | rfl | simp, by first | rfl | simp, fun i _ hne => Below.heap_setCell _ _ _ _ (fun e => hne (by simp [e]))⟩

theorem l00From_any (A : Option Addr) (n c : Nat) (base : Nat) (w : World) (h : Bytes w base A n) (hb : base ≤ w.heap.size) : Calls Try.prog 50 #[.slice A n c] w fun e w' =>
    e = .returned (.pointer (some ⟨w.heap.size, 0, none⟩)) ∧ Src w' base w.heap.size 0 ∧ Below w.heap.size w w' := by
  go_enter Try.func50, Try.ntmps50
  go_wp2
  go_ret
  refine ⟨rfl, ⟨hb, A, n, c, 0, 0, h.keep ?_, Nat.le_refl _, by go_cell, by go_cell, by go_cell, by simp, by simp⟩, by (repeat' (first | (with_reducible exact Below.refl _ _) | (with_reducible assumption) | (with_reducible refine Below.drew ?_) | (with_reducible refine below_drewN ?_ _) | (with_reducible refine Below.setCell ?_ ?_ _) | (with_reducible refine Below.alloc ?_ ?_ _) | go_size))⟩
  (repeat' (first | (with_reducible exact Below.refl _ _) | (with_reducible assumption) | (with_reducible refine Below.drew ?_) | (with_reducible refine below_drewN ?_ _) | (with_reducible refine Below.setCell ?_ ?_ _) | (with_reducible refine Below.alloc ?_ ?_ _) | go_size))
theorem seed_bd (y : Int) : 0 ≤ wrap64 (bits .and .u64 (IntKind.u64.wrap y / 1099511627776) 255) ∧ wrap64 (bits .and .u64 (IntKind.u64.wrap y / 1099511627776) 255) ≤ 255 := by
  have h0 : 0 ≤ IntKind.u64.wrap y ∧ IntKind.u64.wrap y < 18446744073709551616 := by rw [IntKind.wrap_u64]; omega
  generalize IntKind.u64.wrap y = z at h0
  have h := bits_mask .u64 63 (by decide) (fun n h1 h2 => by rw [IntKind.wrap_u64]; omega) 8 (by decide) (z / 1099511627776) (by omega) (by omega)
  have e : ((2 : Int) ^ 8 - 1) = 255 := by decide
  have e2 : ((2 : Int) ^ 8) = 256 := by decide
  rw [e, e2] at h
  rw [h, IntWalk.wrap64_in _ ⟨by omega, by omega⟩]
  omega
theorem Src.next {w : World} {base p k n c a q nq : Nat} {A : Option Addr} {s s' : Int} (hlo : base ≤ p) (hy : Bytes w base A n) (ha : a ≤ k) (h0 : w.cell? ⟨p, 0, none⟩ = some (.slice A n c)) (h1 : w.cell? ⟨p, 1, none⟩ = some (.int .i64 a)) (h2 : w.cell? ⟨p, 2, none⟩ = some (.int .u64 s)) (h3 : w.frozen? ⟨p, 1, none⟩ = false) (h4 : w.frozen? ⟨p, 2, none⟩ = false) :
    Src ((((w.drewN q).setCell ⟨p, 1, none⟩ (.int .i64 ((a : Int) + 1))).setCell ⟨p, 2, none⟩ (.int .u64 s')).drewN nq) base p (k + 1) ∧ w.grownBy ((((w.drewN q).setCell ⟨p, 1, none⟩ (.int .i64 ((a : Int) + 1))).setCell ⟨p, 2, none⟩ (.int .u64 s')).drewN nq) (some p) := by
  have g1 : (w.drewN q).cell? ⟨p, 1, none⟩ = some (.int .i64 a) := h1
  have g2 : (w.drewN q).cell? ⟨p, 2, none⟩ = some (.int .u64 s) := h2
  have hg : w.grownBy ((((w.drewN q).setCell ⟨p, 1, none⟩ (.int .i64 ((a : Int) + 1))).setCell ⟨p, 2, none⟩ (.int .u64 s')).drewN nq) (some p) := by
    have a1 := World.grownBy.trans (grown_setCell (w.drewN q) p 1 (.int .i64 ((a : Int) + 1))) (grown_setCell _ p 2 (.int .u64 s'))
    exact ⟨a1.os, a1.tape, a1.output, a1.size, a1.block⟩
  have hlt := World.block_lt_of_cell? _ _ h0
  have hbl := (Below.refl base w).grown hg (by simp only at hlt; omega) (fun g e => by injection e with e; omega)
  refine ⟨⟨hlo, A, n, c, a + 1, s', hy.keep hbl, by omega, ?_, ?_, ?_, ?_, ?_⟩, hg⟩
  · show ((((w.drewN q).setCell ⟨p, 1, none⟩ (.int .i64 ((a : Int) + 1))).setCell ⟨p, 2, none⟩ (.int .u64 s'))).cell? _ = _
    rw [World.cell?_setCell_other _ _ _ _ (by simp), World.cell?_setCell_other _ _ _ _ (by simp)]; exact h0
  · show ((((w.drewN q).setCell ⟨p, 1, none⟩ (.int .i64 ((a : Int) + 1))).setCell ⟨p, 2, none⟩ (.int .u64 s'))).cell? _ = _
    rw [World.cell?_setCell_other _ _ _ _ (by simp), World.cell?_setCell_same _ _ _ g1]; simp
  · show ((((w.drewN q).setCell ⟨p, 1, none⟩ (.int .i64 ((a : Int) + 1))).setCell ⟨p, 2, none⟩ (.int .u64 s'))).cell? _ = _
    rw [World.cell?_setCell_same _ _ _ (u := .int .u64 s) (by rw [World.cell?_setCell_other _ _ _ _ (by simp)]; exact g2)]
  · simpa using h3
  · simpa using h4
def Drawn (lo hi : Int) (base p k : Nat) (w : World) (e : Ending) (w' : World) : Prop :=
  ∃ v : Int, e = .returned (.int .i64 v) ∧ lo ≤ v ∧ v ≤ hi ∧ Src w' base p k ∧ w.grownBy w' (some p)
theorem next_any (base p k : Nat) (w : World) (h : Src w base p k) (hk : k ≤ 1000000000000) : Calls Try.prog 79 #[.pointer (some ⟨p, 0, none⟩)] w (Drawn 0 255 base p (k + 1) w) := by
  obtain ⟨A, n, c, a, s, hy, ha, h0, h1, h2, h3, h4⟩ := h.src
  have hlo := h.lo
  have hlt := h.lt
  have hn := hy.1
  unfold maxLen at hn
  by_cases hd : a < n
  · obtain ⟨b, off, rfl, hbl, hcs⟩ := hy.2 (by omega)
    obtain ⟨x, hx, x0, x1⟩ := hcs a hd
    have t1 : decide (a < n) = true := by simpa using hd
    have a0 : (0 : Int) ≤ (a : Int) := by omega
    have a1 : (a : Int) < (n : Int) := by omega
    have t2 : ((a : Int) + 1 ≤ n) := by omega
    have t3 : a + 1 ≤ n := by omega
    have t4 : decide ((a : Int) + 1 ≤ n) = true := by simpa using t2
    go_enter Try.func79, Try.ntmps79
    go_wp2
    go_quiet (fail)
    go_wp2
    go_quiet (fail)
    go_wp2
    go_quiet (fail)
    go_wp2
    go_ret
    obtain ⟨g1, g2⟩ := Src.next hlo hy ha h0 h1 h2 h3 h4
    exact ⟨_, rfl, x0, x1, g1, g2⟩
  · have t1 : decide (a < n) = false := by simpa using hd
    have t2 : ¬ ((a : Int) + 1 ≤ n) := by omega
    have t3 : ¬ a + 1 ≤ n := by omega
    have t4 : decide ((a : Int) + 1 ≤ n) = false := by simpa using t2
    go_enter Try.func79, Try.ntmps79
    go_wp2
    go_quiet (fail)
    go_wp2
    go_quiet (fail)
    go_wp2
    go_ret
    obtain ⟨g1, g2⟩ := Src.next hlo hy ha h0 h1 h2 h3 h4
    obtain ⟨b1, b2⟩ := seed_bd _
    exact ⟨_, rfl, b1, b2, g1, g2⟩

theorem drawn_grown {lo hi : Int} {base p k : Nat} {w0 w w1 : World} {e : Ending} (hg : w0.grownBy w (some p)) (h : Drawn lo hi base p k w e w1) : Drawn lo hi base p k w0 e w1 := by
  obtain ⟨v, e, l, u, s, g⟩ := h
  exact ⟨v, e, l, u, s, World.grownBy.trans hg g⟩
theorem pick_any (n : Int) (base p k : Nat) (w : World) (h : Src w base p k) (hk : k ≤ 900000000000) (n1 : n ≤ 1000000000) : Calls Try.prog 51 #[.pointer (some ⟨p, 0, none⟩), .int .i64 n] w (Drawn 0 (max 0 (n - 1)) base p (k + 2) w) := by
  by_cases h1 : n ≤ 1
  · go_enter Try.func51, Try.ntmps51
    go_wp2
    go_ret
    exact ⟨0, rfl, by omega, by omega, h.mono (by omega), World.grownBy.refl _ _⟩
  have n0 : 1 < n := by omega
  by_cases h2 : 200 < n
  · go_enter Try.func51, Try.ntmps51
    go_wp2_with fail
    refine (next_any base p k w h (by omega)).mono ?_
    rintro e w1 ⟨v, rfl, v0, v1, hs, hg⟩
    go_wp2_with fail
    refine (next_any base p (k + 1) w1 hs (by omega)).mono ?_
    rintro e w2 ⟨u, rfl, u0, u1, hs2, hg2⟩
    go_wp2_with fail
    go_ret
    have m0 := Int.emod_nonneg (v * 256 + u) (show n ≠ 0 by omega)
    have m1 := Int.emod_lt_of_pos (v * 256 + u) (show 0 < n by omega)
    exact ⟨_, rfl, m0, by omega, hs2.mono (by omega), World.grownBy.trans hg hg2⟩
  · go_enter Try.func51, Try.ntmps51
    go_wp2_with fail
    refine (next_any base p k w h (by omega)).mono ?_
    rintro e w1 ⟨v, rfl, v0, v1, hs, hg⟩
    go_wp2_with fail
    go_ret
    have m0 := Int.emod_nonneg v (show n ≠ 0 by omega)
    have m1 := Int.emod_lt_of_pos v (show 0 < n by omega)
    exact ⟨_, rfl, m0, by omega, hs.mono (by omega), hg⟩
def Picked (base p k : Nat) (w : World) (e : Ending) (w' : World) : Prop :=
  ∃ v : Bool, e = .returned (.bool v) ∧ Src w' base p k ∧ w.grownBy w' (some p)
end Go.Proofs.Ytkkipkmjhakknaa
