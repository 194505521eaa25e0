/- BestHandle of the program. -/
import Derived.Test.YtkkipkmjhakknaaHand
import Derived.Test.YtkkipkmjhakknaaGood4
import Derived.Deep.RegionHeld3
namespace Go.Proofs.Ytkkipkmjhakknaa
open Go.RowKit
set_option linter.unusedVariables false
set_option linter.unusedSimpArgs false

/-- How far the moment about handle j lies from 0. -/
def offN (cs : List R2) (zs : List Int) (j : Nat) : Nat := (momentI (zs.getD j 0) cs).natAbs
/-- The first best one of the first k handles. -/
def bst (f : Nat → Nat) : Nat → Nat
  | 0 => 0
  | k + 1 => if f k < f (bst f k) then k else bst f k
theorem bst_lt (f : Nat → Nat) : ∀ k, 0 < k → bst f k < k
  | 0, h => absurd h (by omega)
  | k + 1, _ => by
    rw [bst]
    split
    · omega
    · rcases Nat.eq_zero_or_pos k with rfl | h
      · simp [bst]
      · have := bst_lt f k h; omega
theorem bst_lt' (f : Nat → Nat) {k n : Nat} (h : k < n) : bst f k < n := by
  rcases Nat.eq_zero_or_pos k with rfl | h1
  · simp [bst]; omega
  · have := bst_lt f k h1; omega
theorem getD_of {α : Type} {zs : List α} {k : Nat} {z d : α} (h : zs[k]? = some z) : zs.getD k d = z := by rw [List.getD_eq_getElem?_getD, h]; rfl
def handV (cs : List R2) (zs : List Int) : Int × Int :=
  if okGs cs then (if zs.length ≤ 10 ∧ allIn zs 0 1000 = true then (if cs.length = 0 ∨ zs.length = 0 then (0, 3) else ((bst (offN cs zs) zs.length : Nat), 0)) else (0, 2)) else (0, 1)
theorem dist0 (m : Int) : (((m - 0).natAbs : Nat) : Int) = ((m.natAbs : Nat) : Int) := by rw [Int.sub_zero]
theorem distance0_eq (m : Int) (v : Nat) (w : World) (a0 : -1000000000000 ≤ m) (a1 : m ≤ 1000000000000) (hv : m.natAbs = v) : Calls Try.prog 55 #[.int .i64 m, .int .i64 0] w fun e w' => e = .returned (.int .i64 v) ∧ w = w' := by
  subst hv
  have h := distance_any m 0 w a0 a1 (by omega) (by omega)
  rw [dist0] at h
  exact h
/-- A fact that no tactic opens by itself. -/
structure Box (p : Prop) : Prop where
  out : p
theorem drew_below1 (w : World) : Below w.heap.size w w.drew := ⟨rfl, rfl, rfl, Nat.le_refl _, fun _ _ => rfl⟩
theorem implBestHandle_any (A B : Option Addr) (n c m d : Nat) (cs : List R2) (zs : List Int) (w : World) (h : Recs w A n cs) (g : Ints w B m zs) (hn : n ≤ 1048576) (hm : m ≤ 1048576) : Calls Try.prog 22 #[.slice A n c, .slice B m d] w fun e w' => e = .returned (.tuple #[.int .i64 (handV cs zs).1, .int .i64 (handV cs zs).2]) ∧ Below w.heap.size w w' := by
  have hl := h.1
  have gl := g.1
  cases ho : okGs cs
  · have hv : handV cs zs = (0, 1) := by simp [handV, ho]
    rw [hv]
    clear hv hl gl
    go_enter Try.func22, Try.ntmps22
    go_wp2_with fail
    refine (validGoods_eq _ _ _ _ false _ h hn ho).mono ?_
    rintro e w1 ⟨rfl, hb1⟩
    go_wp2
    go_ret2
    exact ⟨rfl, hb1⟩
  by_cases h10 : m ≤ 10
  case neg =>
    have hv : handV cs zs = (0, 2) := by
      unfold handV
      rw [if_pos ho, if_neg (by rw [gl]; intro e; exact h10 e.1)]
    rw [hv]
    have t1 : (10 : Int) < (m : Int) := by omega
    clear hv hl gl h10
    go_enter Try.func22, Try.ntmps22
    go_wp2_with fail
    refine (validGoods_eq _ _ _ _ true _ h hn ho).mono ?_
    rintro e w1 ⟨rfl, hb1⟩
    go_wp2
    go_ret2
    exact ⟨rfl, hb1⟩
  have t1 : ¬ (10 : Int) < (m : Int) := by omega
  cases ha : allIn zs 0 1000
  · have hv : handV cs zs = (0, 2) := by
      unfold handV
      rw [if_pos ho, if_neg (by rw [ha]; simp)]
    rw [hv]
    clear hv hl gl
    go_enter Try.func22, Try.ntmps22
    go_wp2_with fail
    refine (validGoods_eq _ _ _ _ true _ h hn ho).mono ?_
    rintro e w1 ⟨rfl, hb1⟩
    go_wp2_with (go_at_call 52; refine (eachWithin_eq _ _ _ _ _ _ _ _ (g.keep hb1) hm ha).mono ?_; rintro e w' ⟨rfl, rfl⟩)
    go_ret2
    exact ⟨rfl, hb1⟩
  have Ha := Lib.hid ha
  have HN := Lib.hid hl
  have GN := Lib.hid gl
  by_cases hn0 : n = 0
  · have hv : handV cs zs = (0, 3) := by
      unfold handV
      rw [if_pos ho, if_pos ⟨by omega, ha⟩, if_pos (.inl (by omega))]
    rw [hv]
    subst hn0
    clear hv hl gl
    go_enter Try.func22, Try.ntmps22
    go_wp2_with fail
    refine (validGoods_eq _ _ _ _ true _ h hn ho).mono ?_
    rintro e w1 ⟨rfl, hb1⟩
    go_wp2_with (go_at_call 52; refine (eachWithin_eq _ _ _ _ _ _ _ _ (g.keep hb1) hm ha).mono ?_; rintro e w' ⟨rfl, rfl⟩)
    go_ret2
    exact ⟨rfl, hb1⟩
  have tn : ((n : Int) == 0) = false := by rw [beq_eq_false_iff_ne]; omega
  by_cases hm0 : m = 0
  · have hv : handV cs zs = (0, 3) := by
      unfold handV
      rw [if_pos ho, if_pos ⟨by omega, ha⟩, if_pos (.inr (by omega))]
    rw [hv]
    subst hm0
    clear hv hl gl
    go_enter Try.func22, Try.ntmps22
    go_wp2_with fail
    refine (validGoods_eq _ _ _ _ true _ h hn ho).mono ?_
    rintro e w1 ⟨rfl, hb1⟩
    go_wp2_with (go_at_call 52; refine (eachWithin_eq _ _ _ _ _ _ _ _ (g.keep hb1) hm ha).mono ?_; rintro e w' ⟨rfl, rfl⟩)
    go_ret2
    exact ⟨rfl, hb1⟩
  have tm : ((m : Int) == 0) = false := by rw [beq_eq_false_iff_ne]; omega
  have hv : handV cs zs = (((bst (offN cs zs) zs.length : Nat) : Int), 0) := by
    unfold handV
    rw [if_pos ho, if_pos ⟨by omega, ha⟩, if_neg (by omega)]
  rw [hv]
  clear hv hl
  rw [gl]
  clear gl
  go_enter Try.func22, Try.ntmps22
  go_wp2_with fail
  refine (validGoods_eq _ _ _ _ true _ h hn ho).mono ?_
  rintro e w1 ⟨rfl, hb1⟩
  go_wp2_with (go_at_call 52; refine (eachWithin_eq _ _ _ _ _ _ _ _ (g.keep hb1) hm ha).mono ?_; rintro e w' ⟨rfl, rfl⟩)
  clear tn tm
  go_loopw [6, 32] (fun q i wr => ∃ k : Nat, k ≤ m ∧ i = .int .i64 k ∧ q = .int .i64 (bst (offN cs zs) k : Nat) ∧ Below w.heap.size w wr) (fun _ i _ => m - (intOf i).toNat)
  case atStart => exact ⟨0, Nat.zero_le _, rfl, rfl, hb1⟩
  case round =>
    clear hb1
    obtain ⟨k, hk, rfl, rfl, hB⟩ := hrel
    by_cases hlt : k < m
    · obtain ⟨b, off, y, rfl, hblt, hy, hcy⟩ := (g.keep hB).at_ hlt
      have hjm := bst_lt' (offN cs zs) hlt
      have Hs := Lib.hid (show bst (offN cs zs) (k + 1) = if offN cs zs k < offN cs zs (bst (offN cs zs) k) then k else bst (offN cs zs) k from rfl)
      generalize hj : bst (offN cs zs) k = j at *
      have Hj := Lib.hid hj
      obtain ⟨b', off', y2, e2, hblt2, hy2, hcy2⟩ := (g.keep hB).at_ hjm
      obtain ⟨rfl, rfl⟩ : b' = b ∧ off' = off := by simpa using e2.symm
      obtain ⟨i1, i2⟩ := allIn_at Ha.out hy
      obtain ⟨j1, j2⟩ := allIn_at Ha.out hy2
      have m1 := momentAll_bd ho ⟨i1, i2⟩
      have m2 := momentAll_bd ho ⟨j1, j2⟩
      have o1 : (momentI y cs).natAbs = offN cs zs k := by unfold offN; rw [getD_of hy]
      have o2 : (momentI y2 cs).natAbs = offN cs zs j := by unfold offN; rw [getD_of hy2]
      generalize hf1 : offN cs zs k = f1 at *
      generalize hf2 : offN cs zs j = f2 at *
      have O1 := Lib.hid o1
      have O2 := Lib.hid o2
      have hr := Box.mk (h.keep hB)
      have k0 : (0 : Int) ≤ (k : Int) := by omega
      have k1 : (k : Int) < (m : Int) := by omega
      have j0' : (0 : Int) ≤ (j : Int) := by omega
      have j1' : (j : Int) < (m : Int) := by omega
      clear hy hy2 hj o1 o2 hf1 hf2 e2 hjm
      by_cases hlf : f1 < f2
      · have t1 : decide (f1 < f2) = true := by simpa using hlf
        have HL := Lib.hid hlf
        clear hlf
        go_wp2
        (go_region_held3 (fun w' => Box (Recs w' A n cs) ∧ w'.cell? ⟨b', off' + j, none⟩ = some (.int .i64 y2) ∧ Below w.heap.size w w') (((try go_split_ands); (try dsimp only); (repeat' apply And.intro)) <;> first | assumption | exact keepd (by assumption) | exact Below.drew (by assumption) | exact keepc hb2 (by assumption) | exact belowT hb2 (by assumption) | exact Box.mk (Recs.keep (Box.out (by assumption)) hb2) | exact Box.mk (Recs.keep (Box.out (by assumption)) (drew_below1 _))) (first | (go_at_call 60; (with_reducible refine (momentOf_any _ _ _ _ y _ (Box.out (by go_split_ands; assumption)) hn ho ⟨i1, i2⟩).mono ?_); rintro e w' ⟨rfl, hb2⟩) | (go_at_call 60; (with_reducible refine (momentOf_any _ _ _ _ y2 _ (Box.out (by go_split_ands; assumption)) hn ho ⟨j1, j2⟩).mono ?_); rintro e w' ⟨rfl, hb2⟩) | (go_at_call 55; (with_reducible refine (distance0_eq (momentI y cs) f1 _ (by omega) (by omega) O1.out).mono ?_); rintro e w' ⟨rfl, rfl⟩) | (go_at_call 55; (with_reducible refine (distance0_eq (momentI y2 cs) f2 _ (by omega) (by omega) O2.out).mono ?_); rintro e w' ⟨rfl, rfl⟩)))
        go_wp2
        go_roundw
        case rel => exact ⟨k + 1, by omega, by go_num, by rw [Hs.out, if_pos HL.out], by go_split_ands; assumption⟩
        case measure => simp [intOf]; omega
      · have t1 : decide (f1 < f2) = false := by simpa using hlf
        have HL := Lib.hid hlf
        clear hlf
        go_wp2
        (go_region_held3 (fun w' => Box (Recs w' A n cs) ∧ w'.cell? ⟨b', off' + j, none⟩ = some (.int .i64 y2) ∧ Below w.heap.size w w') (((try go_split_ands); (try dsimp only); (repeat' apply And.intro)) <;> first | assumption | exact keepd (by assumption) | exact Below.drew (by assumption) | exact keepc hb2 (by assumption) | exact belowT hb2 (by assumption) | exact Box.mk (Recs.keep (Box.out (by assumption)) hb2) | exact Box.mk (Recs.keep (Box.out (by assumption)) (drew_below1 _))) (first | (go_at_call 60; (with_reducible refine (momentOf_any _ _ _ _ y _ (Box.out (by go_split_ands; assumption)) hn ho ⟨i1, i2⟩).mono ?_); rintro e w' ⟨rfl, hb2⟩) | (go_at_call 60; (with_reducible refine (momentOf_any _ _ _ _ y2 _ (Box.out (by go_split_ands; assumption)) hn ho ⟨j1, j2⟩).mono ?_); rintro e w' ⟨rfl, hb2⟩) | (go_at_call 55; (with_reducible refine (distance0_eq (momentI y cs) f1 _ (by omega) (by omega) O1.out).mono ?_); rintro e w' ⟨rfl, rfl⟩) | (go_at_call 55; (with_reducible refine (distance0_eq (momentI y2 cs) f2 _ (by omega) (by omega) O2.out).mono ?_); rintro e w' ⟨rfl, rfl⟩)))
        go_wp2
        go_roundw
        case rel => exact ⟨k + 1, by omega, by go_num, by rw [Hs.out, if_neg HL.out], by go_split_ands; assumption⟩
        case measure => simp [intOf]; omega
    · obtain rfl : k = m := by omega
      go_wp2
      go_ret2
      exact ⟨rfl, hB⟩
end Go.Proofs.Ytkkipkmjhakknaa
