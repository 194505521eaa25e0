/- HeightOfCourses: contracts and law. -/
import Derived.Test.YtelbedmfnmjehaaCourW
import Derived.Test.YtelbedmfnmjehaaCour3
import Derived.Test.YtelbedmfnmjehaaFrac
namespace Go.Proofs.Ytelbedmfnmjehaa
open Go.RowKit
set_option linter.unusedVariables false
set_option linter.unusedSimpArgs false

def sumT : List R3 → Int
  | [] => 0
  | x :: xs => x.2.1 * x.2.2 + sumT xs
theorem sumT_snoc (xs : List R3) (x : R3) : sumT (xs ++ [x]) = sumT xs + x.2.1 * x.2.2 := by
  induction xs with
  | nil => simp [sumT]
  | cons y ys ih => simp only [List.cons_append, sumT, ih]; omega
theorem sumT_bd {cs : List R3} (ho : okCs cs = true) : ∀ k : Nat, k ≤ cs.length → 0 ≤ sumT (cs.take k) ∧ sumT (cs.take k) ≤ k * 1800
  | 0, _ => by simp [sumT]
  | k + 1, hk => by
    obtain ⟨a, b⟩ := sumT_bd ho k (by omega)
    have hx : cs[k]? = some (cs[k]'(by omega)) := List.getElem?_eq_getElem _
    obtain ⟨x1, x2, x3, x4⟩ := okC_bd ho hx
    rw [take_snoc' hx, sumT_snoc]
    omega

theorem l13Sum_any (A : Option Addr) (n c : Nat) (cs : List R3) (w : World) (h : Recs w A n cs) (hn : n ≤ 1048576) (ho : okCs cs = true) : Calls Try.prog 68 #[.slice A n c] w fun e w' => e = .returned (.int .i64 (sumT cs)) ∧ ∃ q, w' = w.drewN q := by
  have HB := Lib.hid (sumT_bd ho)
  have HL := Lib.hid h.1
  have hle := (okCs_iff.1 ho).2
  go_enter Try.func68, Try.ntmps68
  go_wp2
  go_loopw [3, 4] (fun p i wr => ∃ k : Nat, k ≤ n ∧ i = .int .i64 k ∧ p = .int .i64 (sumT (cs.take k)) ∧ ∃ q, wr = w.drewN q) (fun _ i _ => n - (intOf i).toNat)
  case atStart => exact ⟨0, Nat.zero_le _, rfl, by simp [sumT], 0, rfl⟩
  case round =>
    obtain ⟨k, hk, rfl, rfl, nw, rfl⟩ := hrel
    have hbk := HB.out k (by rw [HL.out]; exact hk)
    have hn60 : n ≤ 60 := by rw [← HL.out]; exact hle
    by_cases hlt : k < n
    · obtain ⟨b, off, x, rfl, hblt, hx, hc0, hc1, hc2⟩ := h.at_ hlt
      obtain ⟨x1, x2, x3, x4⟩ := okC_bd ho hx
      have hs1 : sumT (cs.take (k + 1)) = sumT (cs.take k) + x.2.1 * x.2.2 := by rw [take_snoc' hx, sumT_snoc]
      have H1 := Lib.hid hs1
      have k0 : (0 : Int) ≤ (k : Int) := by omega
      have k1 : (k : Int) < (n : Int) := by omega
      clear hs1 hx
      go_wp2
      go_quiet (fail)
      go_wp2
      go_roundw
      case rel => exact ⟨k + 1, by omega, by go_num, by rw [H1.out], (by first | exact ⟨_, rfl⟩ | exact drew2 _ _ _ | exact ⟨0, rfl⟩)⟩
      case measure => simp [intOf]; omega
    · obtain rfl : k = n := by omega
      go_wp2
      go_ret
      exact ⟨ret_int (by rw [List.take_of_length_le (by rw [HL.out]; omega)]), (by first | exact ⟨_, rfl⟩ | exact drew2 _ _ _ | exact ⟨0, rfl⟩)⟩

/-- The height of rounds, as a fraction, and the code. -/
def heightF (cs : List R3) (p : Int) : Int × Int × Int := if okCs cs then (if inB p 50 100 then (lowN (sumT cs * p).toNat 1000, lowD (sumT cs * p).toNat 1000, 0) else (0, 0, 2)) else (0, 0, 1)
theorem sumP_bd {cs : List R3} (ho : okCs cs = true) {p : Int} (hp : 50 ≤ p ∧ p ≤ 100) : 0 ≤ sumT cs ∧ sumT cs ≤ 108000 ∧ 0 ≤ sumT cs * p ∧ sumT cs * p ≤ 10800000 := by
  have hle := (okCs_iff.1 ho).2
  have h := sumT_bd ho cs.length (Nat.le_refl _)
  rw [List.take_length] at h
  have := mulb (x := sumT cs) (y := p) (A := 108000) (B := 100) (by omega) (by omega) (by omega) (by omega)
  omega
theorem build_zero (w : World) : (Instr.build 46 #[]).run Try.prog w = .ok (.agg #[.int .i64 0, .int .i64 0]) w := run_build w 46 _ _ (by kernel_rfl)

theorem specHeightOf_any (A : Option Addr) (n c : Nat) (cs : List R3) (p : Int) (w : World) (h : Recs w A n cs) (hn : n ≤ 1048576) : Calls Try.prog 32 #[.slice A n c, .int .i64 p] w fun e w' => e = .returned (.tuple #[.agg #[.int .i64 (heightF cs p).1, .int .i64 (heightF cs p).2.1], .int .i64 (heightF cs p).2.2]) ∧ Below w.heap.size w w' := by
  have hbz := build_zero
  cases ho : okCs cs
  · have hv : heightF cs p = (0, 0, 1) := by simp [heightF, ho]
    rw [hv]
    clear hv
    go_enter Try.func32, Try.ntmps32
    go_wp2_with (go_at_call 66; refine (l13Ok_eq _ _ _ _ false _ (h.alloc _) hn ho).mono ?_; rintro e w' ⟨rfl, rfl⟩)
    go_returns
    exact ⟨rfl, by (repeat' (first | (with_reducible exact Below.refl _ _) | (with_reducible assumption) | (with_reducible refine Below.drew ?_) | (with_reducible refine below_drewN ?_ _) | (with_reducible refine Below.setCell ?_ ?_ _) | (with_reducible refine Below.alloc ?_ ?_ _) | go_size))⟩
  cases hi : inB p 50 100
  · have hv : heightF cs p = (0, 0, 2) := by simp [heightF, ho, hi]
    rw [hv]
    clear hv
    go_enter Try.func32, Try.ntmps32
    go_wp2_with (first | (go_at_call 66; refine (l13Ok_eq _ _ _ _ true _ (h.alloc _) hn ho).mono ?_; rintro e w' ⟨rfl, rfl⟩) | (go_at_call 58; refine (l13Packed_any _ _).mono ?_; rintro e w' ⟨rfl, rfl⟩))
    go_returns
    exact ⟨rfl, by (repeat' (first | (with_reducible exact Below.refl _ _) | (with_reducible assumption) | (with_reducible refine Below.drew ?_) | (with_reducible refine below_drewN ?_ _) | (with_reducible refine Below.setCell ?_ ?_ _) | (with_reducible refine Below.alloc ?_ ?_ _) | go_size))⟩
  have ip := (inB_iff _ _ _).1 hi
  obtain ⟨b1, b2, b3, b4⟩ := sumP_bd ho ip
  have hv : heightF cs p = (lowN (sumT cs * p).toNat 1000, lowD (sumT cs * p).toNat 1000, 0) := by simp [heightF, ho, hi]
  rw [hv]
  clear hv
  go_enter Try.func32, Try.ntmps32
  go_wp2_with (first | (go_at_call 66; refine (l13Ok_eq _ _ _ _ true _ (h.alloc _) hn ho).mono ?_; rintro e w' ⟨rfl, rfl⟩) | (go_at_call 58; refine (l13Packed_any _ _).mono ?_; rintro e w' ⟨rfl, rfl⟩) | (go_at_call 68; refine (l13Sum_any _ _ _ _ _ (h.alloc _) hn ho).mono ?_; rintro e w' ⟨rfl, q1, rfl⟩))
  refine (l02Make_i _ _ _ b3 (by omega) (by omega) (by omega)).mono ?_
  rintro e w2 ⟨rfl, hb2⟩
  obtain ⟨hc, hf⟩ := bcell hb2
  have hq0 : w2.cell? ⟨w.heap.size, 0, none⟩ = some (.int .i64 0) := by rw [hc _ _ (by simp)]; go_cell
  have hq1 : w2.cell? ⟨w.heap.size, 1, none⟩ = some (.int .i64 0) := by rw [hc _ _ (by simp)]; go_cell
  have hr0 : w2.frozen? ⟨w.heap.size, 0, none⟩ = false := by rw [hf _ _ (by simp)]; simp
  have hr1 : w2.frozen? ⟨w.heap.size, 1, none⟩ = false := by rw [hf _ _ (by simp)]; simp
  clear hc hf
  have hbz : Below w.heap.size w w2 := by
    refine Below.trans ?_ (hb2.mono (by simp))
    (repeat' (first | (with_reducible exact Below.refl _ _) | (with_reducible assumption) | (with_reducible refine Below.drew ?_) | (with_reducible refine below_drewN ?_ _) | (with_reducible refine Below.setCell ?_ ?_ _) | (with_reducible refine Below.alloc ?_ ?_ _) | go_size))
  have hz := hb2.size
  simp at hz
  go_wp2
  have e0 := World.cell?_setCell_same w2 ⟨w.heap.size, 0, none⟩ (.int .i64 (lowN (sumT cs * p).toNat 1000)) hq0
  have e1' : (w2.setCell ⟨w.heap.size, 0, none⟩ (.int .i64 (lowN (sumT cs * p).toNat 1000))).cell? ⟨w.heap.size, 1, none⟩ = some (.int .i64 0) := by
    rw [World.cell?_setCell_other _ _ _ _ (by simp)]; exact hq1
  have e1 := World.cell?_setCell_same (w2.setCell ⟨w.heap.size, 0, none⟩ (.int .i64 (lowN (sumT cs * p).toNat 1000))) ⟨w.heap.size, 1, none⟩ (.int .i64 (lowD (sumT cs * p).toNat 1000)) e1'
  refine bodyPost_ret (by simp [results, Try.results32, go_sem, e0, e1]; try rfl) rfl ?_
  exact ⟨rfl, by (repeat' (first | (with_reducible exact Below.refl _ _) | (with_reducible assumption) | (with_reducible refine Below.drew ?_) | (with_reducible refine below_drewN ?_ _) | (with_reducible refine Below.setCell ?_ ?_ _) | (with_reducible refine Below.alloc ?_ ?_ _) | go_size))⟩
theorem implHeightOf_any (A : Option Addr) (n c : Nat) (cs : List R3) (p : Int) (w : World) (h : Recs w A n cs) (hn : n ≤ 1048576) : Calls Try.prog 33 #[.slice A n c, .int .i64 p] w fun e w' => e = .returned (.tuple #[.agg #[.int .i64 (heightF cs p).1, .int .i64 (heightF cs p).2.1], .int .i64 (heightF cs p).2.2]) ∧ Below w.heap.size w w' := by
  have hbz := build_zero
  have hst : ∀ w2 : World, Below (w.alloc (.cells #[.int .i64 0, .int .i64 0] 46)).heap.size (w.alloc (.cells #[.int .i64 0, .int .i64 0] 46)) w2 →
      w2.cell? ⟨w.heap.size, 0, none⟩ = some (.int .i64 0) ∧ w2.cell? ⟨w.heap.size, 1, none⟩ = some (.int .i64 0) ∧ w2.frozen? ⟨w.heap.size, 0, none⟩ = false ∧ w2.frozen? ⟨w.heap.size, 1, none⟩ = false ∧ Below w.heap.size w w2 := by
    intro w2 hb2
    obtain ⟨hc, hf⟩ := bcell hb2
    refine ⟨by rw [hc _ _ (by simp)]; go_cell, by rw [hc _ _ (by simp)]; go_cell, by rw [hf _ _ (by simp)]; simp, by rw [hf _ _ (by simp)]; simp, ?_⟩
    exact ((Below.refl _ _).alloc (Nat.le_refl _) _).trans (hb2.mono (by simp))
  have HST := Lib.hid hst
  clear hst
  cases ho : okCs cs
  · have hv : heightF cs p = (0, 0, 1) := by simp [heightF, ho]
    rw [hv]
    clear hv
    go_enter Try.func33, Try.ntmps33
    go_wp2_with fail
    refine (validCourses_eq _ _ _ _ false _ (h.alloc _) hn ho).mono ?_
    rintro e w1 ⟨rfl, hb1⟩
    obtain ⟨hq0, hq1, hr0, hr1, hbz⟩ := HST.out _ hb1
    go_wp2
    refine bodyPost_ret (by simp [results, Try.results33, go_sem, hq0, hq1]; try rfl) rfl ?_
    exact ⟨rfl, by (repeat' (first | (with_reducible exact Below.refl _ _) | (with_reducible assumption) | (with_reducible refine Below.drew ?_) | (with_reducible refine below_drewN ?_ _) | (with_reducible refine Below.setCell ?_ ?_ _) | (with_reducible refine Below.alloc ?_ ?_ _) | go_size))⟩
  cases hi : inB p 50 100
  · have hv : heightF cs p = (0, 0, 2) := by simp [heightF, ho, hi]
    rw [hv]
    clear hv
    go_enter Try.func33, Try.ntmps33
    go_wp2_with fail
    refine (validCourses_eq _ _ _ _ true _ (h.alloc _) hn ho).mono ?_
    rintro e w1 ⟨rfl, hb1⟩
    obtain ⟨hq0, hq1, hr0, hr1, hbz⟩ := HST.out _ hb1
    go_wp2_with (go_at_call 60; refine (isPacked_any _ _).mono ?_; rintro e w' ⟨rfl, rfl⟩)
    refine bodyPost_ret (by simp [results, Try.results33, go_sem, hq0, hq1]; try rfl) rfl ?_
    exact ⟨rfl, by (repeat' (first | (with_reducible exact Below.refl _ _) | (with_reducible assumption) | (with_reducible refine Below.drew ?_) | (with_reducible refine below_drewN ?_ _) | (with_reducible refine Below.setCell ?_ ?_ _) | (with_reducible refine Below.alloc ?_ ?_ _) | go_size))⟩
  have ip := (inB_iff _ _ _).1 hi
  obtain ⟨b1, b2, b3, b4⟩ := sumP_bd ho ip
  have hle := (okCs_iff.1 ho).2
  have hv : heightF cs p = (lowN (sumT cs * p).toNat 1000, lowD (sumT cs * p).toNat 1000, 0) := by simp [heightF, ho, hi]
  rw [hv]
  clear hv
  have HB := Lib.hid (sumT_bd ho)
  have HL := Lib.hid h.1
  go_enter Try.func33, Try.ntmps33
  go_wp2_with fail
  refine (validCourses_eq _ _ _ _ true _ (h.alloc _) hn ho).mono ?_
  rintro e w1 ⟨rfl, hb1⟩
  go_wp2_with (go_at_call 60; refine (isPacked_any _ _).mono ?_; rintro e w' ⟨rfl, rfl⟩)
  go_loopw [6, 19] (fun s i wr => ∃ k : Nat, k ≤ n ∧ i = .int .i64 k ∧ s = .int .i64 (sumT (cs.take k)) ∧ Below (w.alloc (.cells #[.int .i64 0, .int .i64 0] 46)).heap.size (w.alloc (.cells #[.int .i64 0, .int .i64 0] 46)) wr) (fun _ i _ => n - (intOf i).toNat)
  case atStart => exact ⟨0, Nat.zero_le _, rfl, by simp [sumT], hb1⟩
  case round =>
    clear hb1
    obtain ⟨k, hk, rfl, rfl, hbw⟩ := hrel
    have hbk := HB.out k (by rw [HL.out]; exact hk)
    have hn60 : n ≤ 60 := by rw [← HL.out]; exact hle
    by_cases hlt : k < n
    · obtain ⟨b, off, x, rfl, hblt, hx, hc0, hc1, hc2⟩ := ((h.alloc _).keep hbw).at_ hlt
      obtain ⟨x1, x2, x3, x4⟩ := okC_bd ho hx
      have hs1 : sumT (cs.take (k + 1)) = sumT (cs.take k) + x.2.1 * x.2.2 := by rw [take_snoc' hx, sumT_snoc]
      have H1 := Lib.hid hs1
      clear hs1 hx
      go_wp2
      go_roundw
      case rel => exact ⟨k + 1, by omega, by go_num, by rw [H1.out], hbw.alloc hbw.size _⟩
      case measure => simp [intOf]; omega
    · obtain rfl : k = n := by omega
      have hsum : sumT (cs.take k) = sumT cs := by rw [List.take_of_length_le (by rw [HL.out]; omega)]
      rw [hsum]
      clear hsum hbk
      obtain ⟨hq0, hq1, hr0, hr1, hbz⟩ := HST.out _ hbw
      have hlt := World.block_lt_of_cell? _ _ hq0
      go_wp2_with fail
      refine (lowest_i _ _ _ b3 (by omega) (by omega) (by omega)).mono ?_
      rintro e w2 ⟨rfl, hb2⟩
      have hbz2 := hbw.trans (hb2.mono hbw.size)
      obtain ⟨hq0, hq1, hr0, hr1, hbz⟩ := HST.out _ hbz2
      go_wp2
      refine bodyPost_ret (by simp [results, Try.results33, go_sem, hq0, hq1]; try rfl) rfl ?_
      exact ⟨rfl, by (repeat' (first | (with_reducible exact Below.refl _ _) | (with_reducible assumption) | (with_reducible refine Below.drew ?_) | (with_reducible refine below_drewN ?_ _) | (with_reducible refine Below.setCell ?_ ?_ _) | (with_reducible refine Below.alloc ?_ ?_ _) | go_size))⟩
end Go.Proofs.Ytelbedmfnmjehaa
