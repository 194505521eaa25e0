/- Results that are slices of int64: what is kept; membership. -/
import Derived.Test.YtkkipkmjhakknaaMem
import Derived.Maps.AppendAt
import Derived.Deep.AppendLies
namespace Go.Proofs.Ytkkipkmjhakknaa
open Go.RowKit
set_option linter.unusedVariables false
set_option linter.unusedSimpArgs false

/-- A's block. -/
def blk (A : Option Addr) : Option Nat := A.map (·.block)
theorem Ints.grown {w w' : World} {A : Option Addr} {n : Nat} {zs : List Int} {r : Option Nat} (h : Ints w A n zs) (hg : w.grownBy w' r) (hne : ∀ g, r = some g → blk A ≠ some g) : Ints w' A n zs :=
  ⟨h.1, fun hn => by
    obtain ⟨b, off, e, hlt, hc⟩ := h.2 hn
    refine ⟨b, off, e, Nat.lt_of_lt_of_le hlt hg.size, fun j z hz => hg.cell (hc j z hz) ?_⟩
    intro he
    exact hne b he.symm (by subst e; rfl)⟩
theorem blk_own (A : Option Addr) (n c : Nat) : (Value.slice A n c).ownBlock = blk A := by cases A <;> rfl
theorem OwnI.lt {w : World} {base : Nat} {A : Option Addr} {n c : Nat} {zs : List Int} (h : OwnI w base (.slice A n c) n zs) : ∀ g, blk A = some g → base ≤ g ∧ g < w.heap.size := fun g hg => World.ownsRow.lt h g (by rw [blk_own]; exact hg)
theorem OwnI.keep {w w' : World} {base : Nat} {v : Value} {n : Nat} {zs : List Int} (h : OwnI w base v n zs) (hb : Below w.heap.size w w') : OwnI w' base v n zs := by
  refine World.ownsRow.kept (row := none) h ⟨hb.os, hb.tape, hb.output, hb.size, fun k hk _ => ?_⟩ ?_
  · exact hb.block k hk
  · cases hv : v.ownBlock <;> simp
theorem OwnI.grown {w w' : World} {base : Nat} {A : Option Addr} {n c : Nat} {zs : List Int} {r : Option Nat} (h : OwnI w base (.slice A n c) n zs) (hg : w.grownBy w' r) (hne : ∀ g, r = some g → blk A ≠ some g) : OwnI w' base (.slice A n c) n zs := by
  refine World.ownsRow.kept h hg ?_
  rw [blk_own]
  rcases r with _ | g
  · cases hA : blk A <;> simp
  · exact .inr (hne g rfl)
theorem OwnI.len {w : World} {base : Nat} {v : Value} {n : Nat} {zs : List Int} (h : OwnI w base v n zs) : zs.length = n := by simpa using h.1
theorem own_app {w1 : World} {base q : Nat} {v1 : Value} {L : List Int} {z : Int} (h : w1.ownsRow base 2 1 v1 (q + 1) (L.map (Value.int .i64) ++ [.int .i64 z])) : ∃ C p, v1 = .slice C (q + 1) p ∧ OwnI w1 base (.slice C (q + 1) p) (q + 1) (L ++ [z]) := by
  have e : L.map (Value.int .i64) ++ [.int .i64 z] = (L ++ [z]).map (Value.int .i64) := by simp
  rw [e] at h
  rcases h.2 with ⟨_, h0⟩ | ⟨g, cap, cur, hv, _⟩
  · omega
  · subst hv; exact ⟨_, _, rfl, h⟩
theorem below_app {w wr w1 : World} {e size n : Nat} {v : Value} {xs : List Value} {o : Obj} (hB : Below w.heap.size w wr) (hown : wr.ownsRow w.heap.size e size v n xs) (hg : (wr.alloc o).grownBy w1 v.ownBlock) : Below w.heap.size w w1 := by
  have hs := hB.size
  exact (hB.alloc hs o).grown hg (by simp; omega) (fun k hk => (World.ownsRow.lt hown k hk).1)
theorem take_all {α : Type} {zs : List α} {n : Nat} (h : zs.length = n) : zs.take n = zs := List.take_of_length_le (by omega)
theorem drew_below (w : World) (n : Nat) : Below w.heap.size w (w.drewN n) := ⟨rfl, rfl, rfl, Nat.le_refl _, fun _ _ => rfl⟩
/-- Comparing two slices that read alike. -/
theorem eqI_same (A B : Option Addr) (n c d : Nat) (zs : List Int) (w : World) (h : Ints w A n zs) (g : Ints w B n zs) (hn : n ≤ 1048576) : Calls Try.prog 43 #[.slice A n c, .slice B n d] w fun e w' =>
    e = .returned (.bool true) ∧ Below w.heap.size w w' := by
  refine (eqInt64S_any _ _ _ _ _ _ _ _ _ h g hn hn).mono ?_
  rintro e w' ⟨rfl, k, rfl⟩
  exact ⟨by simp, drew_below w k⟩

/-- z is in the list. -/
def hasI (gs : List Int) (z : Int) : Bool := decide (z ∈ gs)
def NoTill (gs : List Int) (z : Int) (k : Nat) : Prop := ∀ j : Nat, j < k → gs[j]? ≠ some z
theorem noTill_succ {gs : List Int} {z y : Int} {k : Nat} (h : NoTill gs z k) (hy : gs[k]? = some y) (e : ¬ y = z) : NoTill gs z (k + 1) := fun j hj => by
  rcases Nat.lt_succ_iff_lt_or_eq.1 hj with h1 | rfl
  · exact h j h1
  · rw [hy]; intro he; injection he with he; exact e he
theorem hasI_no {gs : List Int} {z : Int} {n : Nat} (hl : gs.length = n) (h : NoTill gs z n) : hasI gs z = false := by
  unfold hasI
  rw [decide_eq_false_iff_not]
  intro hm
  obtain ⟨j, hj, e⟩ := List.mem_iff_getElem.1 hm
  exact h j (by omega) (by rw [List.getElem?_eq_getElem hj, e])
theorem hasI_yes {gs : List Int} {z y : Int} {k : Nat} (hy : gs[k]? = some y) (e : y = z) : hasI gs z = true := by
  unfold hasI
  rw [decide_eq_true_iff]
  exact e ▸ List.mem_of_getElem? hy

theorem l00Has_any (A : Option Addr) (n c : Nat) (gs : List Int) (z : Int) (w : World) (h : Ints w A n gs) (hn : n ≤ 1048576) : Calls Try.prog 81 #[.slice A n c, .int .i64 z] w fun e w' =>
    e = .returned (.bool (hasI gs z)) ∧ w = w' := by
  have HL := Lib.hid h.1
  go_enter Try.func81, Try.ntmps81
  go_wp2
  go_loop [5] (fun i => ∃ k : Nat, k ≤ n ∧ i = .int .i64 k ∧ NoTill gs z k) (fun i => n - (intOf i).toNat)
  case atStart => exact ⟨0, Nat.zero_le _, rfl, fun _ h => absurd h (by omega)⟩
  case round =>
    obtain ⟨k, hk, rfl, he⟩ := hrel
    by_cases hlt : k < n
    · obtain ⟨b, off, y, rfl, hblt, hy, hcy⟩ := h.at_ hlt
      have Hy := Lib.hid hy
      clear hy
      by_cases e : y = z
      · have ht : (y == z) = true := by simpa using e
        have E := Lib.hid e
        clear e
        go_wp2
        go_ret
        exact ⟨ret_bool (hasI_yes Hy.out E.out).symm, rfl⟩
      · have ht : (y == z) = false := by simpa using e
        go_wp2
        go_round
        case rel => exact ⟨k + 1, by omega, by go_num, noTill_succ he Hy.out e⟩
        case measure => simp [intOf]; omega
    · obtain rfl : k = n := by omega
      go_wp2
      go_ret
      exact ⟨ret_bool (hasI_no HL.out he).symm, rfl⟩
theorem l00Has_eq (A : Option Addr) (n c : Nat) (gs : List Int) (z : Int) (v : Bool) (w : World) (h : Ints w A n gs) (hn : n ≤ 1048576) (hv : hasI gs z = v) : Calls Try.prog 81 #[.slice A n c, .int .i64 z] w fun e w' =>
    e = .returned (.bool v) ∧ w = w' := by
  subst hv; exact l00Has_any _ _ _ _ _ _ h hn
end Go.Proofs.Ytkkipkmjhakknaa
