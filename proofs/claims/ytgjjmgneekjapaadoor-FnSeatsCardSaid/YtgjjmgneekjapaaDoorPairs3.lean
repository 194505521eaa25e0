/- Contracts: PairsOf, StrandsOf; law StrandsOf. -/
import Derived.Test.YtgjjmgneekjapaaDoorPairs2
namespace Go.Proofs.YtgjjmgneekjapaaDoor
open Go.RowKit
set_option linter.unusedVariables false
set_option linter.unusedSimpArgs false

def codeP (f b s st : Int) : Int := if okSeat f b s then (if inB st 1 6 then 0 else 2) else 1
def pairsV (f b s st : Int) : List (Int × Int) := if codeP f b s st = 0 then pairsL f.toNat b.toNat s.toNat st else []
theorem validSeat_eq (f b s : Int) (v : Bool) (w : World) (h : okSeat f b s = v) : Calls Tryd.prog 24 #[.agg #[.int .i64 f, .int .i64 b, .int .i64 s]] w fun e w' => e = .returned (.bool v) ∧ Below w.heap.size w w' := by
  subst h; exact validSeat_any _ _ _ _
theorem l15Ok_eq (f b s : Int) (p : Nat) (v : Bool) (w : World) (h0 : w.cell? ⟨p, 0, none⟩ = some (.int .i64 f)) (h1 : w.cell? ⟨p, 1, none⟩ = some (.int .i64 b)) (h2 : w.cell? ⟨p, 2, none⟩ = some (.int .i64 s)) (h : okSeat f b s = v) :
    Calls Tryd.prog 27 #[.pointer (some ⟨p, 0, none⟩)] w fun e w' => e = .returned (.bool v) ∧ ∃ n, w' = w.drewN n := by
  subst h; exact l15Ok_any _ _ _ _ _ h0 h1 h2
theorem l15Code_eq (f b s st : Int) (p : Nat) (v : Int) (w : World) (h0 : w.cell? ⟨p, 0, none⟩ = some (.int .i64 f)) (h1 : w.cell? ⟨p, 1, none⟩ = some (.int .i64 b)) (h2 : w.cell? ⟨p, 2, none⟩ = some (.int .i64 s)) (h : codeP f b s st = v) :
    Calls Tryd.prog 33 #[.pointer (some ⟨p, 0, none⟩), .int .i64 st] w fun e w' => e = .returned (.int .i64 v) ∧ ∃ n, w' = w.drewN n := by
  subst h
  cases ho : okSeat f b s
  · have hv : codeP f b s st = 1 := by simp [codeP, ho]
    rw [hv]
    go_enter Tryd.func33, Tryd.ntmps33
    go_wp2_with (go_at_call 27; refine (l15Ok_eq _ _ _ _ _ _ h0 h1 h2 ho).mono ?_; rintro e w' ⟨rfl, q, rfl⟩)
    go_ret
    exact ⟨rfl, _, rfl⟩
  cases hs : inB st 1 6
  · have hv : codeP f b s st = 2 := by simp [codeP, ho, hs]
    rw [hv]
    go_enter Tryd.func33, Tryd.ntmps33
    go_wp2_with (first | (go_at_call 27; refine (l15Ok_eq _ _ _ _ _ _ h0 h1 h2 ho).mono ?_; rintro e w' ⟨rfl, q, rfl⟩) | (go_at_call 38; refine (l00In_any _ _ _ _).mono ?_; rintro e w' ⟨rfl, rfl⟩))
    go_ret
    exact ⟨rfl, _, rfl⟩
  · have hv : codeP f b s st = 0 := by simp [codeP, ho, hs]
    rw [hv]
    go_enter Tryd.func33, Tryd.ntmps33
    go_wp2_with (first | (go_at_call 27; refine (l15Ok_eq _ _ _ _ _ _ h0 h1 h2 ho).mono ?_; rintro e w' ⟨rfl, q, rfl⟩) | (go_at_call 38; refine (l00In_any _ _ _ _).mono ?_; rintro e w' ⟨rfl, rfl⟩))
    go_ret
    exact ⟨rfl, _, rfl⟩

/-- The cells of the box. -/
theorem box_cells {t : TypeId} {w w1 : World} {f b s : Int} (hb : Below (w.alloc (.cells #[.int .i64 f, .int .i64 b, .int .i64 s] t)).heap.size (w.alloc (.cells #[.int .i64 f, .int .i64 b, .int .i64 s] t)) w1) :
    w1.cell? ⟨w.heap.size, 0, none⟩ = some (.int .i64 f) ∧ w1.cell? ⟨w.heap.size, 1, none⟩ = some (.int .i64 b) ∧ w1.cell? ⟨w.heap.size, 2, none⟩ = some (.int .i64 s) ∧ Below w.heap.size w w1 := by
  obtain ⟨hc, hf⟩ := bcell hb
  refine ⟨by rw [hc _ _ (by simp)]; go_cell, by rw [hc _ _ (by simp)]; go_cell, by rw [hc _ _ (by simp)]; go_cell, ?_⟩
  exact ((Below.refl _ _).alloc (Nat.le_refl _) _).trans (hb.mono (by simp))

theorem implPairsOf_any (f b s st : Int) (w : World) : Calls Tryd.prog 10 #[.agg #[.int .i64 f, .int .i64 b, .int .i64 s], .int .i64 st] w fun e w' =>
    ∃ A n c, e = .returned (.tuple #[.slice A n c, .int .i64 (codeP f b s st)]) ∧ OwnP w' w.heap.size (.slice A n c) n (pairsV f b s st) ∧ Below w.heap.size w w' := by
  cases ho : okSeat f b s
  · have hv : codeP f b s st = 1 := by simp [codeP, ho]
    have hv2 : pairsV f b s st = [] := by simp [pairsV, hv]
    rw [hv, hv2]
    clear hv hv2
    go_enter Tryd.func10, Tryd.ntmps10
    go_wp2_with fail
    refine (validSeat_eq _ _ _ false _ ho).mono ?_
    rintro e w1 ⟨rfl, hb⟩
    obtain ⟨c0, c1, c2, hB⟩ := box_cells hb
    go_wp2
    go_ret2
    exact ⟨none, 0, 0, rfl, OwnP.nil _ _, hB⟩
  cases hs : inB st 1 6
  · have hv : codeP f b s st = 2 := by simp [codeP, ho, hs]
    have hv2 : pairsV f b s st = [] := by simp [pairsV, hv]
    rw [hv, hv2]
    clear hv hv2
    go_enter Tryd.func10, Tryd.ntmps10
    go_wp2_with fail
    refine (validSeat_eq _ _ _ true _ ho).mono ?_
    rintro e w1 ⟨rfl, hb⟩
    obtain ⟨c0, c1, c2, hB⟩ := box_cells hb
    go_wp2_with (go_at_call 31; refine (within_any _ _ _ _).mono ?_; rintro e w' ⟨rfl, rfl⟩)
    go_ret2
    exact ⟨none, 0, 0, rfl, OwnP.nil _ _, hB⟩
  have hv : codeP f b s st = 0 := by simp [codeP, ho, hs]
  have hv2 : pairsV f b s st = pairsL f.toNat b.toNat s.toNat st := by simp [pairsV, hv]
  rw [hv, hv2]
  clear hv hv2
  obtain ⟨⟨f0, f1⟩, ⟨b0, b1⟩, ⟨s0, s1⟩, hmod⟩ := (okSeat_iff _ _ _).1 ho
  obtain ⟨f, rfl⟩ := Int.eq_ofNat_of_zero_le (show 0 ≤ f by omega)
  obtain ⟨b, rfl⟩ := Int.eq_ofNat_of_zero_le (show 0 ≤ b by omega)
  obtain ⟨s, rfl⟩ := Int.eq_ofNat_of_zero_le (show 0 ≤ s by omega)
  have is := (inB_iff _ _ _).1 hs
  simp only [Int.toNat_natCast]
  go_enter Tryd.func10, Tryd.ntmps10
  go_wp2_with fail
  refine (validSeat_eq _ _ _ true _ ho).mono ?_
  rintro e w1 ⟨rfl, hb⟩
  obtain ⟨c0, c1, c2, hB⟩ := box_cells hb
  go_wp2_with (first | (go_at_call 31; refine (within_any _ _ _ _).mono ?_; rintro e w' ⟨rfl, rfl⟩) | (go_at_call 32; refine (pairsOf_any _ _ _ _ _ ho is.1 is.2).mono ?_; rintro e w' ⟨A, n, c, rfl, hP, hb2⟩))
  go_ret2
  exact ⟨_, _, _, rfl, hP.mono hB.size, belowT hb2 hB⟩
theorem specPairsOf_any (f b s st : Int) (w : World) : Calls Tryd.prog 11 #[.agg #[.int .i64 f, .int .i64 b, .int .i64 s], .int .i64 st] w fun e w' =>
    ∃ A n c, e = .returned (.tuple #[.slice A n c, .int .i64 (codeP f b s st)]) ∧ OwnP w' w.heap.size (.slice A n c) n (pairsV f b s st) ∧ Below w.heap.size w w' := by
  by_cases hv : codeP f b s st = 0
  case neg =>
    have hv2 : pairsV f b s st = [] := by simp [pairsV, hv]
    rw [hv2]
    generalize hq : codeP f b s st = q at *
    have Hq := Lib.hid hq
    clear hq hv2
    have ht : (q != 0) = true := by simpa using hv
    clear hv
    go_enter Tryd.func11, Tryd.ntmps11
    go_wp2_with (go_at_call 33; refine (l15Code_eq _ _ _ _ _ _ _ (by go_cell) (by go_cell) (by go_cell) Hq.out).mono ?_; rintro e w' ⟨rfl, q1, rfl⟩)
    go_ret2
    exact ⟨none, 0, 0, rfl, OwnP.nil _ _, by (repeat' (first | (with_reducible exact Below.refl _ _) | (with_reducible assumption) | (with_reducible refine Below.drew ?_) | (with_reducible refine below_drewN ?_ _) | (with_reducible refine Below.setCell ?_ ?_ _) | (with_reducible refine Below.alloc ?_ ?_ _) | go_size))⟩
  have hv2 : pairsV f b s st = pairsL f.toNat b.toNat s.toNat st := by simp [pairsV, hv]
  rw [hv, hv2]
  have Hq := Lib.hid hv
  unfold codeP at hv
  cases ho : okSeat f b s
  · simp [ho] at hv
  cases hs : inB st 1 6
  · simp [ho, hs] at hv
  clear hv hv2
  obtain ⟨⟨f0, f1⟩, ⟨b0, b1⟩, ⟨s0, s1⟩, hmod⟩ := (okSeat_iff _ _ _).1 ho
  obtain ⟨f, rfl⟩ := Int.eq_ofNat_of_zero_le (show 0 ≤ f by omega)
  obtain ⟨b, rfl⟩ := Int.eq_ofNat_of_zero_le (show 0 ≤ b by omega)
  obtain ⟨s, rfl⟩ := Int.eq_ofNat_of_zero_le (show 0 ≤ s by omega)
  have is := (inB_iff _ _ _).1 hs
  simp only [Int.toNat_natCast]
  go_enter Tryd.func11, Tryd.ntmps11
  go_wp2_with (first | (go_at_call 33; refine (l15Code_eq _ _ _ _ _ _ _ (by go_cell) (by go_cell) (by go_cell) Hq.out).mono ?_; rintro e w' ⟨rfl, q1, rfl⟩) | (go_at_call 34; refine (l15Pairs_any _ _ _ _ _ _ (by go_cell) (by go_cell) (by go_cell) ho is.1 is.2).mono ?_; rintro e w' ⟨A, n, c, rfl, hP, hb2⟩))
  go_ret2
  refine ⟨_, _, _, rfl, hP.mono (by simp), ?_⟩
  refine Below.trans ?_ (hb2.mono (by simp))
  (repeat' (first | (with_reducible exact Below.refl _ _) | (with_reducible assumption) | (with_reducible refine Below.drew ?_) | (with_reducible refine below_drewN ?_ _) | (with_reducible refine Below.setCell ?_ ?_ _) | (with_reducible refine Below.alloc ?_ ?_ _) | go_size))
end Go.Proofs.YtgjjmgneekjapaaDoor
