/- Marks of layers and of baskets. -/
import Derived.Test.YtopefgahppfkcaaDoorMrg1
import Derived.Deep.RegionWith
namespace Go.Proofs.YtopefgahppfkcaaDoor
open Go.RowKit
set_option linter.unusedVariables false
set_option linter.unusedSimpArgs false

def rampL (q : Int) (n : Nat) : List R2 := (List.range n).map fun i : Nat => (mkT (q + 2 * (i : Int)), q + 2 * (i : Int) + 1)
theorem rampL_at {q : Int} {n k : Nat} (h : k < n) : (rampL q n)[k]? = some (mkT (q + 2 * (k : Int)), q + 2 * (k : Int) + 1) := by
  simp [rampL, List.getElem?_range h]
theorem rampL_len (q : Int) (n : Nat) : (rampL q n).length = n := by simp [rampL]
theorem grown_below {w w' : World} (hb : Below w.heap.size w w') (r : Option Nat) : w.grownBy w' r := ⟨hb.os, hb.tape, hb.output, hb.size, fun k hk _ => hb.block k hk⟩
theorem row_keep {w w' : World} {base n : Nat} {v : Value} {xs : List Value} (h : w.ownsRow base 56 2 v n xs) (hb : Below w.heap.size w w') : w'.ownsRow base 56 2 v n xs :=
  h.kept (grown_below hb none) (by cases hv : v.ownBlock <;> simp)
def MarkPost (A : Option Addr) (n c : Nat) (q : Int) (base : Nat) (w : World) (e : Ending) (w' : World) : Prop :=
  e = .returned (.int .i64 (q + 2 * n)) ∧ OwnR w' base (.slice A n c) n (rampL q n) ∧ w.grownBy w' (Value.slice A n c).ownBlock
theorem markLayerS_any (A : Option Addr) (n c : Nat) (cs : List R2) (q : Int) (base : Nat) (w : World) (h : OwnR w base (.slice A n c) n cs) (hn : n ≤ 1048576) (q0 : 0 ≤ q) (q1 : q ≤ 100000000) : Calls Tryd.prog 36 #[.slice A n c, .int .i64 q] w (MarkPost A n c q base w) := by
  obtain ⟨xs, h, hl, hr⟩ := h
  clear hl hr
  rcases Nat.eq_zero_or_pos n with hn0 | hpos
  · subst hn0
    go_enter Tryd.func36, Tryd.ntmps36
    go_wp2
    refine wp_loop_rounds 1 ?_
    rw [rounds_succ]
    go_wp2
    go_ret
    exact ⟨ret_int (by simp), ⟨xs, h, by simp [rampL], fun j y hj => absurd hj (by omega)⟩, World.grownBy.refl w _⟩
  obtain ⟨g, rfl⟩ : ∃ g, A = some ⟨g, 0, none⟩ := by
    rcases h.2 with ⟨_, h2⟩ | ⟨g, cap, cur, hv, _⟩
    · omega
    · exact ⟨g, by simp at hv; exact hv.1⟩
  go_enter Tryd.func36, Tryd.ntmps36
  go_wp2
  go_loopw [1, 5] (fun p i wr => ∃ k : Nat, k ≤ n ∧ i = .int .i64 k ∧ p = .int .i64 (q + 2 * k) ∧ (∃ ys, wr.ownsRow base 56 2 (.slice (some ⟨g, 0, none⟩) n c) n ys ∧ RowR ys (rampL q n) k) ∧ w.grownBy wr (some g)) (fun _ i _ => n - (intOf i).toNat)
  case atStart => exact ⟨0, Nat.zero_le _, rfl, by simp, ⟨_, h, fun j y hj => absurd hj (by omega)⟩, World.grownBy.refl w _⟩
  case round =>
    obtain ⟨k, hk, rfl, rfl, ⟨ys, hown0, hrow⟩, hg⟩ := hrel
    by_cases hlt : k < n
    · have HR := Box0.mk hrow
      have hyl := hown0.1
      clear hrow
      go_wp2_with fail
      refine (markText_any _ _ (by omega)).mono ?_
      rintro e w1 ⟨rfl, hb⟩
      have hown := row_keep hown0 hb
      obtain ⟨u0, hu0⟩ := ownR_full hown (j := k * 2) (by omega)
      obtain ⟨u1, hu1⟩ := ownR_full hown (j := k * 2 + 1) (by omega)
      have hf0 := World.ownsRow.frozenAt hown (k * 2)
      have hf1 := World.ownsRow.frozenAt hown (k * 2 + 1)
      have k0 : (0 : Int) ≤ (k : Int) := by omega
      have k1 : (k : Int) < (n : Int) := by omega
      go_wp2
      go_roundw
      case rel =>
        obtain ⟨hs0, hg0⟩ := World.ownsRow.stored hown (k * 2) (.string (mkT (q + 2 * (k : Int))))
        obtain ⟨hs1, hg1⟩ := World.ownsRow.stored hs0 (k * 2 + 1) (.int .i64 (q + 2 * (k : Int) + 1))
        exact ⟨k + 1, by omega, by go_num, by go_num, ⟨_, hs1, rowR_set (x := (mkT (q + 2 * (k : Int)), q + 2 * (k : Int) + 1)) HR.out (rampL_at hlt) (by omega)⟩, World.grownBy.trans' (World.grownBy.trans' (World.grownBy.trans' hg (grown_below hb _)) hg0) hg1⟩
      case measure => simp [intOf]; omega
    · obtain rfl : k = n := by omega
      go_wp2
      go_ret
      exact ⟨rfl, ⟨ys, hown0, rampL_len _ _, hrow⟩, hg⟩

theorem heldLayerS_ramp (A : Option Addr) (n c : Nat) (q : Int) (w : World) (h : Recs w A n (rampL q n)) (hn : n ≤ 1048576) (q0 : 0 ≤ q) (q1 : q ≤ 100000000) : Calls Tryd.prog 37 #[.slice A n c, .int .i64 q] w fun e w' => e = .returned (.int .i64 (q + 2 * n)) ∧ Below w.heap.size w w' := by
  go_enter Tryd.func37, Tryd.ntmps37
  go_wp2
  go_loopw [1, 5] (fun p i wr => ∃ k : Nat, k ≤ n ∧ i = .int .i64 k ∧ p = .int .i64 (q + 2 * k) ∧ Below w.heap.size w wr) (fun _ i _ => n - (intOf i).toNat)
  case atStart => exact ⟨0, Nat.zero_le _, rfl, by simp, Below.refl _ _⟩
  case round =>
    obtain ⟨k, hk, rfl, rfl, hB⟩ := hrel
    by_cases hlt : k < n
    · have hr := h.keep hB
      obtain ⟨b, off, z, rfl, hblt, hz, hc0, hc1⟩ := hr.at_ hlt
      rw [rampL_at hlt] at hz
      injection hz with hz
      subst hz
      simp only at hc0 hc1
      have k0 : (0 : Int) ≤ (k : Int) := by omega
      have k1 : (k : Int) < (n : Int) := by omega
      have tq : ((mkT (q + 2 * (k : Int))).toList != (mkT (q + 2 * (k : Int))).toList) = false := by simp
      have tz : (q + 2 * (k : Int) + 1 != q + 2 * (k : Int) + 1) = false := by simp
      go_wp2_with fail
      go_region_with ((go_at_call 49; refine (markText_any _ _ (by omega)).mono ?_; rintro e w1 ⟨rfl, hb1⟩; have y0 := keepc hb1 hc0; have y1 := keepc hb1 hc1))
      all_goals
        have hB2 : Below w.heap.size w w1 := belowT hb1 (Below.drew hB)
        clear hc0 hc1
        go_wp2
        go_roundw
        case rel => exact ⟨k + 1, by omega, by go_num, by go_num, hB2⟩
        case measure => simp [intOf]; omega
    · obtain rfl : k = n := by omega
      go_wp2
      go_ret
      exact ⟨rfl, hB⟩
theorem markBasket_any (st : Int) (A : Option Addr) (n c : Nat) (b : ByteArray) (cs : List R2) (q : Int) (base : Nat) (w : World) (h : OwnR w base (.slice A n c) n cs) (hn : n ≤ 1048576) (q0 : 0 ≤ q) (q1 : q ≤ 100000000) : Calls Tryd.prog 22 #[bval st A n c b, .int .i64 q] w (MarkPost A n c q base w) := by
  go_enter Tryd.func22, Tryd.ntmps22
  have hb := (Below.refl w.heap.size w).alloc (Nat.le_refl _) (.cells #[.int .i64 st, .slice A n c, .string b] 35)
  have hr := OwnR.kept h (grown_below hb none) (by cases hv : (Value.slice A n c).ownBlock <;> simp)
  go_wp2_with fail
  refine (markLayerS_any _ _ _ _ _ _ _ hr hn q0 q1).mono ?_
  rintro e w' ⟨rfl, ho, hg⟩
  go_wp2_with fail
  go_ret
  exact ⟨rfl, ho, World.grownBy.trans' (grown_below hb _) hg⟩
theorem heldBasket_any (st : Int) (A : Option Addr) (n c : Nat) (b : ByteArray) (q : Int) (w : World) (h : Recs w A n (rampL q n)) (hn : n ≤ 1048576) (q0 : 0 ≤ q) (q1 : q ≤ 100000000) : Calls Tryd.prog 23 #[bval st A n c b, .int .i64 q] w fun e w' => e = .returned (.int .i64 (q + 2 * n)) ∧ Below w.heap.size w w' := by
  go_enter Tryd.func23, Tryd.ntmps23
  have hb := (Below.refl w.heap.size w).alloc (Nat.le_refl _) (.cells #[.int .i64 st, .slice A n c, .string b] 35)
  have hr := h.keep hb
  go_wp2_with fail
  refine (heldLayerS_ramp _ _ _ _ _ hr hn q0 q1).mono ?_
  rintro e w' ⟨rfl, hb2⟩
  have t0 : ¬ (q + 2 * (n : Int) < 0) := by omega
  have t1 : decide (q + 2 * (n : Int) < 0) = false := decide_eq_false t0
  have t2 : 0 ≤ q + 2 * (n : Int) := by omega
  go_wp2_with fail
  go_ret
  exact ⟨rfl, belowT hb2 hb⟩
end Go.Proofs.YtopefgahppfkcaaDoor
