/- Contracts of the small helpers within, l00In: each returns the plain test; the world is left alone. -/
import Derived.Test.YtkkipkmjhakknaaRows
import Derived.WalkKit
import Derived.ProofKit
import Derived.OpenShut
import Derived.WalkSpells
import Derived.Handy
import Derived.Deep.QuietTactic
import Derived.BigQuiet
import Derived.Lib.Hide
import Derived.Deep.RegionHeld3
namespace Go.Proofs.Ytkkipkmjhakknaa
open Go.RowKit
set_option linter.unusedVariables false
set_option linter.unusedSimpArgs false

/-- n lies from a to b. -/
def inB (n a b : Int) : Bool := decide (a ≤ n) && decide (n ≤ b)
theorem inB_iff (n a b : Int) : inB n a b = true ↔ a ≤ n ∧ n ≤ b := by simp [inB]
theorem inB_not (n a b : Int) : inB n a b = false ↔ n < a ∨ b < n := by
  rw [← Bool.not_eq_true, inB_iff]; omega

theorem bcell {W w1 : World} (hb : Below W.heap.size W w1) : (∀ b o, b < W.heap.size → w1.cell? ⟨b, o, none⟩ = W.cell? ⟨b, o, none⟩) ∧ (∀ b o, b < W.heap.size → w1.frozen? ⟨b, o, none⟩ = W.frozen? ⟨b, o, none⟩) :=
  ⟨fun b o h => hb.cell (p := ⟨b, o, none⟩) h, fun b o h => hb.frozen (p := ⟨b, o, none⟩) h⟩

theorem below_drewN {B : Nat} {a w : World} (h : Below B a w) (n : Nat) : Below B a (w.drewN n) := ⟨h.os, h.tape, h.output, h.size, h.block⟩

theorem drew2 (w : World) (a b : Nat) : ∃ n, (w.drewN a).drewN b = w.drewN n := ⟨a + b, by rw [World.drewN_drewN]⟩
theorem quiet_add {P : Program} {f : FuncId} {args : Array Value} {w : World} {a n : Nat} {v : Value}
    (h : Calls P f args (w.drewN (a + n)) fun e w' => e = .returned v ∧ ∃ m, w' = (w.drewN (a + n)).drewN m) :
    Calls P f args (w.drewN (a + n)) fun e w'' => e = .returned v ∧ ∃ m, w'' = w.drewN (a + m) :=
  h.mono fun _ _ ⟨he, m, hm⟩ => ⟨he, n + m, by rw [hm, World.drewN_drewN, Nat.add_assoc]⟩
theorem quiet_add_same {P : Program} {f : FuncId} {args : Array Value} {w : World} {a n : Nat} {v : Value}
    (h : Calls P f args (w.drewN (a + n)) fun e w' => e = .returned v ∧ w' = w.drewN (a + n)) :
    Calls P f args (w.drewN (a + n)) fun e w'' => e = .returned v ∧ ∃ m, w'' = w.drewN (a + m) :=
  h.mono fun _ _ ⟨he, hm⟩ => ⟨he, n, hm⟩
theorem ret_bool {a b : Bool} (h : a = b) : Ending.returned (.bool a) = .returned (.bool b) := by rw [h]
theorem ret_int {k : IntKind} {a b : Int} (h : a = b) : Ending.returned (.int k a) = .returned (.int k b) := by rw [h]

theorem mulb {x y A B : Int} (x0 : 0 ≤ x) (x1 : x ≤ A) (y0 : 0 ≤ y) (y1 : y ≤ B) : 0 ≤ x * y ∧ x * y ≤ A * B :=
  ⟨Int.mul_nonneg x0 y0, Int.mul_le_mul x1 y1 y0 (by omega)⟩

/-- a / b, rounded up. -/
def ovr (a b : Int) : Int := a / b + if 0 < a % b then 1 else 0
theorem ovr_eq {a b : Int} (hb : 0 < b) : ovr a b = (a + b - 1) / b := by
  unfold ovr
  have h1 := Int.emod_nonneg a (show b ≠ 0 by omega)
  have h2 := Int.emod_lt_of_pos a hb
  have h3 := Int.mul_ediv_add_emod a b
  generalize a / b = q at *
  generalize a % b = r at *
  symm
  by_cases hr : 0 < r
  · rw [if_pos hr]
    rw [show a + b - 1 = (r - 1) + b * (q + 1) by rw [← h3, Int.mul_add]; omega, Int.add_mul_ediv_left _ _ (by omega), Int.ediv_eq_zero_of_lt (by omega) (by omega)]
    omega
  · rw [if_neg hr]
    rw [show a + b - 1 = (b - 1) + b * q by rw [← h3]; omega, Int.add_mul_ediv_left _ _ (by omega), Int.ediv_eq_zero_of_lt (by omega) (by omega)]
    omega
theorem ovr_bd {a b : Int} (ha : 0 ≤ a) (hb : 0 < b) : 0 ≤ ovr a b ∧ ovr a b ≤ a := by
  rw [ovr_eq hb]
  constructor
  · exact Int.ediv_nonneg (by omega) (by omega)
  · rcases Int.lt_or_eq_of_le ha with h | h
    · exact Int.ediv_le_of_le_mul hb (by have := Int.mul_nonneg (show 0 ≤ a - 1 by omega) (show 0 ≤ b - 1 by omega); rw [Int.sub_mul, Int.mul_sub] at this; omega)
    · rw [← h, Int.ediv_eq_zero_of_lt (by omega) (by omega)]; omega

theorem keepc {W w1 : World} (hb : Below W.heap.size W w1) {p : Addr} {v : Value} (h : W.cell? p = some v) : w1.cell? p = some v := (hb.cell (World.block_lt_of_cell? W p h)).trans h

theorem keepd {W : World} {p : Addr} {v : Value} (h : W.cell? p = some v) : W.drew.cell? p = some v := h

theorem belowT {w W w1 : World} (hb2 : Below W.heap.size W w1) (h : Below w.heap.size w W) : Below w.heap.size w w1 := h.trans (hb2.mono h.size)

theorem within_any (n a b : Int) (w : World) : Calls Try.prog 61 #[.int .i64 n, .int .i64 a, .int .i64 b] w fun e w' => e = .returned (.bool (inB n a b)) ∧ w = w' := by
  by_cases h1 : a ≤ n
  · by_cases h2 : n ≤ b
    · go_enter Try.func61, Try.ntmps61
      go_wp2
      go_ret
      exact ⟨by simp [inB, h1, h2], rfl⟩
    · go_enter Try.func61, Try.ntmps61
      go_wp2
      go_ret
      exact ⟨by simp [inB]; omega, rfl⟩
  · go_enter Try.func61, Try.ntmps61
    go_wp2
    go_ret
    exact ⟨by simp [inB]; omega, rfl⟩
theorem within_eq (n a b : Int) (v : Bool) (w : World) (h : inB n a b = v) : Calls Try.prog 61 #[.int .i64 n, .int .i64 a, .int .i64 b] w fun e w' => e = .returned (.bool v) ∧ w' = w := by
  subst h; exact (within_any n a b w).mono fun _ _ ⟨a, b⟩ => ⟨a, b.symm⟩
theorem l00In_any (n a b : Int) (w : World) : Calls Try.prog 69 #[.int .i64 n, .int .i64 a, .int .i64 b] w fun e w' => e = .returned (.bool (inB n a b)) ∧ w = w' := by
  by_cases h1 : a ≤ n
  · by_cases h2 : n ≤ b
    · go_enter Try.func69, Try.ntmps69
      go_wp2
      go_ret
      exact ⟨by simp [inB, h1, h2], rfl⟩
    · go_enter Try.func69, Try.ntmps69
      go_wp2
      go_ret
      exact ⟨by simp [inB]; omega, rfl⟩
  · go_enter Try.func69, Try.ntmps69
    go_wp2
    go_ret
    exact ⟨by simp [inB]; omega, rfl⟩
theorem l00In_eq (n a b : Int) (v : Bool) (w : World) (h : inB n a b = v) : Calls Try.prog 69 #[.int .i64 n, .int .i64 a, .int .i64 b] w fun e w' => e = .returned (.bool v) ∧ w' = w := by
  subst h; exact (l00In_any n a b w).mono fun _ _ ⟨a, b⟩ => ⟨a, b.symm⟩
theorem over_any (a b : Int) (w : World) (a0 : 0 ≤ a) (a1 : a ≤ 1000000000000) (b0 : 1 ≤ b) : Calls Try.prog 62 #[.int .i64 a, .int .i64 b] w fun e w' => e = .returned (.int .i64 (ovr a b)) ∧ w = w' := by
  have hq0 : 0 ≤ a / b := Int.ediv_nonneg a0 (by omega)
  have hq1 : a / b ≤ a := Int.ediv_le_self b a0
  by_cases h : 0 < a % b
  · have hv : ovr a b = a / b + 1 := by unfold ovr; rw [if_pos h]
    rw [hv]
    clear hv
    go_enter Try.func62, Try.ntmps62
    go_wp2
    go_ret
    exact ⟨rfl, rfl⟩
  · have hv : ovr a b = a / b := by unfold ovr; rw [if_neg h]; omega
    rw [hv]
    clear hv
    go_enter Try.func62, Try.ntmps62
    go_wp2
    go_ret
    exact ⟨rfl, rfl⟩

theorem gcd_step (x y : Nat) : Nat.gcd y (x % y) = Nat.gcd x y := by
  rw [Nat.gcd_comm y, ← Nat.gcd_rec, Nat.gcd_comm]
theorem divisor_any (a b : Nat) (w : World) (ha : a ≤ 1000000000000) (hb : b ≤ 1000000000000) : Calls Try.prog 80 #[.int .i64 a, .int .i64 b] w fun e w' => e = .returned (.int .i64 (Nat.gcd a b : Nat)) ∧ ∃ n, w' = w.drewN n := by
  go_enter Try.func80, Try.ntmps80
  go_wp2
  go_loopw [0, 1] (fun u v wr => ∃ x y : Nat, x ≤ 1000000000000 ∧ y ≤ 1000000000000 ∧ u = .int .i64 x ∧ v = .int .i64 y ∧ Nat.gcd x y = Nat.gcd a b ∧ ∃ n, wr = w.drewN n) (fun _ v _ => (intOf v).toNat)
  case atStart => exact ⟨a, b, ha, hb, rfl, rfl, rfl, 0, rfl⟩
  case round =>
    obtain ⟨x, y, hx, hy, rfl, rfl, hg, nw, rfl⟩ := hrel
    by_cases hz : y = 0
    · subst hz
      have Hg := Lib.hid hg
      clear hg
      go_wp2
      go_ret
      exact ⟨ret_int (by rw [← Hg.out, Nat.gcd_zero_right]), nw, rfl⟩
    · have hne : ((y : Int) != 0) = true := by simp; exact hz
      have hy1 : (1 : Int) ≤ (y : Int) := by omega
      have hm : x % y < y := Nat.mod_lt _ (by omega)
      have Hg := Lib.hid hg
      clear hg
      go_wp2
      go_quiet (fail)
      go_wp2
      go_roundw
      case rel => exact ⟨y, x % y, hy, by omega, rfl, by simp, by rw [gcd_step]; exact Hg.out, drew2 _ _ _⟩
      case measure => simp [intOf]; omega
theorem l00Gcd_any (a b : Nat) (w : World) (ha : a ≤ 1000000000000) (hb : b ≤ 1000000000000) : Calls Try.prog 82 #[.int .i64 a, .int .i64 b] w fun e w' => e = .returned (.int .i64 (Nat.gcd a b : Nat)) ∧ w = w' := by
  go_enter Try.func82, Try.ntmps82
  go_wp2
  go_loop [0, 1] (fun u v => ∃ x y : Nat, x ≤ 1000000000000 ∧ y ≤ 1000000000000 ∧ u = .int .i64 x ∧ v = .int .i64 y ∧ Nat.gcd x y = Nat.gcd a b) (fun _ v => (intOf v).toNat)
  case atStart => exact ⟨a, b, ha, hb, rfl, rfl, rfl⟩
  case round =>
    obtain ⟨x, y, hx, hy, rfl, rfl, hg⟩ := hrel
    by_cases hz : y = 0
    · subst hz
      have Hg := Lib.hid hg
      clear hg
      go_wp2
      go_ret
      exact ⟨ret_int (by rw [← Hg.out, Nat.gcd_zero_right]), rfl⟩
    · have hne : ((y : Int) != 0) = true := by simp; exact hz
      have hy1 : (1 : Int) ≤ (y : Int) := by omega
      have hm : x % y < y := Nat.mod_lt _ (by omega)
      have Hg := Lib.hid hg
      clear hg
      go_wp2
      go_round
      case rel => exact ⟨y, x % y, hy, by omega, rfl, by simp, by rw [gcd_step]; exact Hg.out⟩
      case measure => simp [intOf]; omega
end Go.Proofs.Ytkkipkmjhakknaa
