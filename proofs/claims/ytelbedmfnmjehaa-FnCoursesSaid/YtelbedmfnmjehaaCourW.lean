/- LengthOfAll: contracts and law. -/
import Derived.Test.YtelbedmfnmjehaaCourV
namespace Go.Proofs.Ytelbedmfnmjehaa
open Go.RowKit
set_option linter.unusedVariables false
set_option linter.unusedSimpArgs false

def sumLo : List R3 → Int
  | [] => 0
  | x :: xs => x.2.2 * x.1 + sumLo xs
def sumHi (s : Int) : List R3 → Int
  | [] => 0
  | x :: xs => x.2.2 * mostL x.1 x.2.1 s + sumHi s xs
theorem sumLo_snoc (xs : List R3) (x : R3) : sumLo (xs ++ [x]) = sumLo xs + x.2.2 * x.1 := by
  induction xs with
  | nil => simp [sumLo]
  | cons y ys ih => simp only [List.cons_append, sumLo, ih]; omega
theorem sumHi_snoc (s : Int) (xs : List R3) (x : R3) : sumHi s (xs ++ [x]) = sumHi s xs + x.2.2 * mostL x.1 x.2.1 s := by
  induction xs with
  | nil => simp [sumHi]
  | cons y ys ih => simp only [List.cons_append, sumHi, ih]; omega
theorem take_snoc' {α : Type} {cs : List α} {k : Nat} {x : α} (h : cs[k]? = some x) : cs.take (k + 1) = cs.take k ++ [x] := by
  rw [List.take_add_one, h]; rfl
def lenAllV (cs : List R3) (s : Int) : Int × Int × Int := if okCs cs then (if inB s 3 60 then (sumLo cs, sumHi s cs, 0) else (0, 0, 2)) else (0, 0, 1)

theorem sums_bd {cs : List R3} {s : Int} (ho : okCs cs = true) (hs : 3 ≤ s ∧ s ≤ 60) : ∀ k : Nat, k ≤ cs.length → 0 ≤ sumLo (cs.take k) ∧ sumLo (cs.take k) ≤ k * 30000 ∧ 0 ≤ sumHi s (cs.take k) ∧ sumHi s (cs.take k) ≤ k * 246000
  | 0, _ => by simp [sumLo, sumHi]
  | k + 1, hk => by
    obtain ⟨a, b, c, d⟩ := sums_bd ho hs k (by omega)
    have hx : cs[k]? = some (cs[k]'(by omega)) := List.getElem?_eq_getElem _
    obtain ⟨x1, x2, x3, x4⟩ := okC_bd ho hx
    rw [take_snoc' hx, sumLo_snoc, sumHi_snoc]
    obtain ⟨g1, g2, g3, g4⟩ := mostL_bd x1 x2 hs
    have b1 := mulb (x := (cs[k]'(by omega)).2.2) (y := (cs[k]'(by omega)).1) (A := 6) (B := 5000) (by omega) (by omega) (by omega) (by omega)
    have b2 := mulb (x := (cs[k]'(by omega)).2.2) (y := mostL (cs[k]'(by omega)).1 (cs[k]'(by omega)).2.1 s) (A := 6) (B := 41000) (by omega) (by omega) (by omega) (by omega)
    omega

theorem specLengthOfAll_any (A : Option Addr) (n c : Nat) (cs : List R3) (s : Int) (w : World) (h : Recs w A n cs) (hn : n ≤ 1048576) : Calls Try.prog 30 #[.slice A n c, .int .i64 s] w fun e w' => e = .returned (.tuple #[.int .i64 (lenAllV cs s).1, .int .i64 (lenAllV cs s).2.1, .int .i64 (lenAllV cs s).2.2]) ∧ Below w.heap.size w w' := by
  have hl := h.1
  cases ho : okCs cs
  · have hv : lenAllV cs s = (0, 0, 1) := by simp [lenAllV, ho]
    rw [hv]
    clear hv
    go_enter Try.func30, Try.ntmps30
    go_wp2_with (go_at_call 66; refine (l13Ok_eq _ _ _ _ false _ h hn ho).mono ?_; rintro e w' ⟨rfl, rfl⟩)
    go_ret3
    exact ⟨rfl, Below.refl _ _⟩
  cases hi : inB s 3 60
  · have hv : lenAllV cs s = (0, 0, 2) := by simp [lenAllV, ho, hi]
    rw [hv]
    clear hv
    go_enter Try.func30, Try.ntmps30
    go_wp2_with (first | (go_at_call 66; refine (l13Ok_eq _ _ _ _ true _ h hn ho).mono ?_; rintro e w' ⟨rfl, rfl⟩) | (go_at_call 51; refine (l13Stakes_any _ _).mono ?_; rintro e w' ⟨rfl, rfl⟩))
    go_ret3
    exact ⟨rfl, Below.refl _ _⟩
  have is := (inB_iff _ _ _).1 hi
  have hle := (okCs_iff.1 ho).2
  have hv : lenAllV cs s = (sumLo cs, sumHi s cs, 0) := by simp [lenAllV, ho, hi]
  rw [hv]
  clear hv
  have hbd := sums_bd ho is
  have HB := Lib.hid hbd
  have HL := Lib.hid hl
  clear hbd hl
  go_enter Try.func30, Try.ntmps30
  go_wp2_with (first | (go_at_call 66; refine (l13Ok_eq _ _ _ _ true _ h hn ho).mono ?_; rintro e w' ⟨rfl, rfl⟩) | (go_at_call 51; refine (l13Stakes_any _ _).mono ?_; rintro e w' ⟨rfl, rfl⟩))
  go_loopw [7, 8, 9] (fun p q i wr => ∃ k : Nat, k ≤ n ∧ i = .int .i64 k ∧ p = .int .i64 (sumLo (cs.take k)) ∧ q = .int .i64 (sumHi s (cs.take k)) ∧ ∃ q, wr = w.drewN q) (fun _ _ i _ => n - (intOf i).toNat)
  case atStart => exact ⟨0, Nat.zero_le _, rfl, by simp [sumLo], by simp [sumHi], 0, rfl⟩
  case round =>
    obtain ⟨k, hk, rfl, rfl, rfl, nw, rfl⟩ := hrel
    have hbk := HB.out k (by rw [HL.out]; exact hk)
    have hn60 : n ≤ 60 := by rw [← HL.out]; exact hle
    by_cases hlt : k < n
    · obtain ⟨b, off, x, rfl, hblt, hx, hc0, hc1, hc2⟩ := h.at_ hlt
      obtain ⟨x1, x2, x3, x4⟩ := okC_bd ho hx
      obtain ⟨g1, g2, g3, g4⟩ := mostL_bd x1 x2 is
      have b1 := mulb (x := x.2.2) (y := x.1) (A := 6) (B := 5000) (by omega) (by omega) (by omega) (by omega)
      have b2 := mulb (x := x.2.2) (y := mostL x.1 x.2.1 s) (A := 6) (B := 41000) (by omega) (by omega) (by omega) (by omega)
      have hs1 : sumLo (cs.take (k + 1)) = sumLo (cs.take k) + x.2.2 * x.1 := by rw [take_snoc' hx, sumLo_snoc]
      have hs2 : sumHi s (cs.take (k + 1)) = sumHi s (cs.take k) + x.2.2 * mostL x.1 x.2.1 s := by rw [take_snoc' hx, sumHi_snoc]
      have H1 := Lib.hid hs1
      have H2 := Lib.hid hs2
      clear hs1 hs2 hx g1 g2
      go_wp2_with (first | (go_at_call 52; refine (l13Low_any x.1 x.2.1 x.2.2 _ _ _ (by go_cell) (by go_cell) (by go_cell) x1 x3).mono ?_; rintro e w' ⟨rfl, n1, rfl⟩) | (go_at_call 53; refine (l13High_any x.1 x.2.1 x.2.2 s _ _ _ (by go_cell) (by go_cell) (by go_cell) x1 x2 x3 is).mono ?_; rintro e w' ⟨rfl, n2, rfl⟩))
      go_roundw
      case rel => exact ⟨k + 1, by omega, by go_num, by rw [H1.out], by rw [H2.out], (by first | exact ⟨_, rfl⟩ | exact drew2 _ _ _ | exact ⟨0, rfl⟩)⟩
      case measure => simp [intOf]; omega
    · obtain rfl : k = n := by omega
      go_wp2
      go_ret3
      exact ⟨by rw [List.take_of_length_le (by rw [HL.out]; omega)]; rfl, below_drewN (Below.refl _ _) _⟩
end Go.Proofs.Ytelbedmfnmjehaa
