/- BestHandle of the spec; the law. -/
import Derived.Test.YtkkipkmjhakknaaHand2
import Derived.Test.YtkkipkmjhakknaaIntR
namespace Go.Proofs.Ytkkipkmjhakknaa
open Go.RowKit
set_option linter.unusedVariables false
set_option linter.unusedSimpArgs false

theorem l00Size_eq (m : Int) (v : Nat) (w : World) (a0 : -1000000000000 ≤ m) (a1 : m ≤ 1000000000000) (hv : m.natAbs = v) : Calls Try.prog 74 #[.int .i64 m] w fun e w' => e = .returned (.int .i64 v) ∧ w = w' := by
  subst hv
  exact l00Size_any m w (by omega) (by omega)
theorem l14Moment_below (A : Option Addr) (n c : Nat) (cs : List R2) (a : Int) (w : World) (h : Recs w A n cs) (hn : n ≤ 1048576) (ho : okGs cs = true) (ha : 0 ≤ a ∧ a ≤ 1000) : Calls Try.prog 73 #[.slice A n c, .int .i64 a] w fun e w' => e = .returned (.int .i64 (momentI a cs)) ∧ Below w.heap.size w w' :=
  (l14Moment_any _ _ _ _ _ _ h hn ho ha).mono fun _ _ ⟨e, q, hq⟩ => ⟨e, hq ▸ drew_below w q⟩
theorem specBestHandle_any (A B : Option Addr) (n c m d : Nat) (cs : List R2) (zs : List Int) (w : World) (h : Recs w A n cs) (g : Ints w B m zs) (hn : n ≤ 1048576) (hm : m ≤ 1048576) : Calls Try.prog 49 #[.slice A n c, .slice B m d] w fun e w' => e = .returned (.tuple #[.int .i64 (handV cs zs).1, .int .i64 (handV cs zs).2]) ∧ Below w.heap.size w w' := by
  have hl := h.1
  have gl := g.1
  cases ho : okGs cs
  · have hv : handV cs zs = (0, 1) := by simp [handV, ho]
    rw [hv]
    clear hv hl gl
    go_enter Try.func49, Try.ntmps49
    go_wp2_with (go_at_call 66; refine (l14Ok_eq _ _ _ _ false _ h hn ho).mono ?_; rintro e w' ⟨rfl, rfl⟩)
    go_ret2
    exact ⟨rfl, Below.refl _ _⟩
  cases hp : placesB zs 10
  · have hv : handV cs zs = (0, 2) := by
      unfold handV
      rw [if_pos ho, if_neg]
      rintro ⟨e1, e2⟩
      unfold placesB at hp
      rw [e2, decide_eq_true (by omega)] at hp
      cases hp
    rw [hv]
    clear hv hl gl
    go_enter Try.func49, Try.ntmps49
    go_wp2_with (first | (go_at_call 66; refine (l14Ok_eq _ _ _ _ true _ h hn ho).mono ?_; rintro e w' ⟨rfl, rfl⟩) | (go_at_call 76; refine (l14Places_eq _ _ _ _ _ _ _ g hm hp).mono ?_; rintro e w' ⟨rfl, hw'⟩; have hw2 := hw'.symm; clear hw'; subst hw2))
    go_ret2
    exact ⟨rfl, Below.refl _ _⟩
  have hp' := hp
  unfold placesB at hp'
  rw [Bool.and_eq_true, decide_eq_true_iff] at hp'
  obtain ⟨ha, h10⟩ := hp'
  have h10' : zs.length ≤ 10 := by omega
  have Ha := Lib.hid ha
  have HN := Lib.hid hl
  have GN := Lib.hid gl
  by_cases hn0 : n = 0
  · have hv : handV cs zs = (0, 3) := by
      unfold handV
      rw [if_pos ho, if_pos ⟨h10', ha⟩, if_pos (.inl (by omega))]
    rw [hv]
    subst hn0
    clear hv hl gl ha h10 h10'
    go_enter Try.func49, Try.ntmps49
    go_wp2_with (first | (go_at_call 66; refine (l14Ok_eq _ _ _ _ true _ h hn ho).mono ?_; rintro e w' ⟨rfl, rfl⟩) | (go_at_call 76; refine (l14Places_eq _ _ _ _ _ _ _ g hm hp).mono ?_; rintro e w' ⟨rfl, hw'⟩; have hw2 := hw'.symm; clear hw'; subst hw2))
    go_ret2
    exact ⟨rfl, Below.refl _ _⟩
  have tn : ((n : Int) == 0) = false := by rw [beq_eq_false_iff_ne]; omega
  by_cases hm0 : m = 0
  · have hv : handV cs zs = (0, 3) := by
      unfold handV
      rw [if_pos ho, if_pos ⟨h10', ha⟩, if_pos (.inr (by omega))]
    rw [hv]
    subst hm0
    clear hv hl gl ha h10 h10'
    go_enter Try.func49, Try.ntmps49
    go_wp2_with (first | (go_at_call 66; refine (l14Ok_eq _ _ _ _ true _ h hn ho).mono ?_; rintro e w' ⟨rfl, rfl⟩) | (go_at_call 76; refine (l14Places_eq _ _ _ _ _ _ _ g hm hp).mono ?_; rintro e w' ⟨rfl, hw'⟩; have hw2 := hw'.symm; clear hw'; subst hw2))
    go_ret2
    exact ⟨rfl, Below.refl _ _⟩
  have tm : ((m : Int) == 0) = false := by rw [beq_eq_false_iff_ne]; omega
  have hv : handV cs zs = (((bst (offN cs zs) zs.length : Nat) : Int), 0) := by
    unfold handV
    rw [if_pos ho, if_pos ⟨h10', ha⟩, if_neg (by omega)]
  rw [hv]
  clear hv hl
  rw [gl]
  clear gl ha h10 h10'
  go_enter Try.func49, Try.ntmps49
  go_wp2_with (first | (go_at_call 66; refine (l14Ok_eq _ _ _ _ true _ h hn ho).mono ?_; rintro e w' ⟨rfl, rfl⟩) | (go_at_call 76; refine (l14Places_eq _ _ _ _ _ _ _ g hm hp).mono ?_; rintro e w' ⟨rfl, hw'⟩; have hw2 := hw'.symm; clear hw'; subst hw2))
  clear tn tm
  go_loopw [6, 7] (fun q i wr => ∃ k : Nat, 1 ≤ k ∧ k ≤ m ∧ i = .int .i64 k ∧ q = .int .i64 (bst (offN cs zs) k : Nat) ∧ Below w.heap.size w wr) (fun _ i _ => m - (intOf i).toNat)
  case atStart => exact ⟨1, by omega, by omega, rfl, by simp [bst], Below.refl _ _⟩
  case round =>
    obtain ⟨k, hk1, hk, rfl, rfl, hB⟩ := hrel
    by_cases hlt : k < m
    · obtain ⟨b, off, y, rfl, hblt, hy, hcy⟩ := (g.keep hB).at_ hlt
      have hjm := bst_lt' (offN cs zs) hlt
      have Hs := Lib.hid (show bst (offN cs zs) (k + 1) = if offN cs zs k < offN cs zs (bst (offN cs zs) k) then k else bst (offN cs zs) k from rfl)
      generalize hj : bst (offN cs zs) k = j at *
      have Hj := Lib.hid hj
      obtain ⟨b', off', y2, e2, hblt2, hy2, hcy2⟩ := (g.keep hB).at_ hjm
      obtain ⟨rfl, rfl⟩ : b' = b ∧ off' = off := by simpa using e2.symm
      obtain ⟨i1, i2⟩ := allIn_at Ha.out hy
      obtain ⟨j1, j2⟩ := allIn_at Ha.out hy2
      have m1 := momentAll_bd ho ⟨i1, i2⟩
      have m2 := momentAll_bd ho ⟨j1, j2⟩
      have o1 : (momentI y cs).natAbs = offN cs zs k := by unfold offN; rw [getD_of hy]
      have o2 : (momentI y2 cs).natAbs = offN cs zs j := by unfold offN; rw [getD_of hy2]
      generalize hf1 : offN cs zs k = f1 at *
      generalize hf2 : offN cs zs j = f2 at *
      have O1 := Lib.hid o1
      have O2 := Lib.hid o2
      have hr := Box.mk (h.keep hB)
      have k0 : (0 : Int) ≤ (k : Int) := by omega
      have k1 : (k : Int) < (m : Int) := by omega
      have j0' : (0 : Int) ≤ (j : Int) := by omega
      have j1' : (j : Int) < (m : Int) := by omega
      clear hy hy2 hj o1 o2 hf1 hf2 e2 hjm
      by_cases hlf : f1 < f2
      · have t1 : decide (f1 < f2) = true := by simpa using hlf
        have HL := Lib.hid hlf
        clear hlf
        go_wp2
        (go_region_held3 (fun w' => Box (Recs w' A n cs) ∧ w'.cell? ⟨b', off' + j, none⟩ = some (.int .i64 y2) ∧ w'.cell? ⟨b', off' + k, none⟩ = some (.int .i64 y) ∧ Below w.heap.size w w') (((try go_split_ands); (try dsimp only); (repeat' apply And.intro)) <;> first | assumption | exact keepd (by assumption) | exact Below.drew (by assumption) | exact keepc hb2 (by assumption) | exact belowT hb2 (by assumption) | exact Box.mk (Recs.keep (Box.out (by assumption)) hb2) | exact Box.mk (Recs.keep (Box.out (by assumption)) (drew_below1 _))) (first | (go_at_call 73; (with_reducible refine (l14Moment_below _ _ _ _ y _ (Box.out (by go_split_ands; assumption)) hn ho ⟨i1, i2⟩).mono ?_); rintro e w' ⟨rfl, hb2⟩) | (go_at_call 73; (with_reducible refine (l14Moment_below _ _ _ _ y2 _ (Box.out (by go_split_ands; assumption)) hn ho ⟨j1, j2⟩).mono ?_); rintro e w' ⟨rfl, hb2⟩) | (go_at_call 74; (with_reducible refine (l00Size_eq (momentI y cs) f1 _ (by omega) (by omega) O1.out).mono ?_); rintro e w' ⟨rfl, rfl⟩) | (go_at_call 74; (with_reducible refine (l00Size_eq (momentI y2 cs) f2 _ (by omega) (by omega) O2.out).mono ?_); rintro e w' ⟨rfl, rfl⟩)))
        go_wp2
        go_roundw
        case rel => exact ⟨k + 1, by omega, by omega, by go_num, by rw [Hs.out, if_pos HL.out], by go_split_ands; assumption⟩
        case measure => simp [intOf]; omega
      · have t1 : decide (f1 < f2) = false := by simpa using hlf
        have HL := Lib.hid hlf
        clear hlf
        go_wp2
        (go_region_held3 (fun w' => Box (Recs w' A n cs) ∧ w'.cell? ⟨b', off' + j, none⟩ = some (.int .i64 y2) ∧ w'.cell? ⟨b', off' + k, none⟩ = some (.int .i64 y) ∧ Below w.heap.size w w') (((try go_split_ands); (try dsimp only); (repeat' apply And.intro)) <;> first | assumption | exact keepd (by assumption) | exact Below.drew (by assumption) | exact keepc hb2 (by assumption) | exact belowT hb2 (by assumption) | exact Box.mk (Recs.keep (Box.out (by assumption)) hb2) | exact Box.mk (Recs.keep (Box.out (by assumption)) (drew_below1 _))) (first | (go_at_call 73; (with_reducible refine (l14Moment_below _ _ _ _ y _ (Box.out (by go_split_ands; assumption)) hn ho ⟨i1, i2⟩).mono ?_); rintro e w' ⟨rfl, hb2⟩) | (go_at_call 73; (with_reducible refine (l14Moment_below _ _ _ _ y2 _ (Box.out (by go_split_ands; assumption)) hn ho ⟨j1, j2⟩).mono ?_); rintro e w' ⟨rfl, hb2⟩) | (go_at_call 74; (with_reducible refine (l00Size_eq (momentI y cs) f1 _ (by omega) (by omega) O1.out).mono ?_); rintro e w' ⟨rfl, rfl⟩) | (go_at_call 74; (with_reducible refine (l00Size_eq (momentI y2 cs) f2 _ (by omega) (by omega) O2.out).mono ?_); rintro e w' ⟨rfl, rfl⟩)))
        go_wp2
        go_roundw
        case rel => exact ⟨k + 1, by omega, by omega, by go_num, by rw [Hs.out, if_neg HL.out], by go_split_ands; assumption⟩
        case measure => simp [intOf]; omega
    · obtain rfl : k = m := by omega
      go_wp2
      go_ret2
      exact ⟨rfl, by (repeat' (first | (with_reducible exact Below.refl _ _) | (with_reducible assumption) | (with_reducible refine Below.drew ?_) | (with_reducible refine below_drewN ?_ _) | (with_reducible refine Below.setCell ?_ ?_ _) | (with_reducible refine Below.alloc ?_ ?_ _) | go_size))⟩

theorem law_FnExactBestHandle (w : World) (A : Option Addr) (n c : Nat) (cs : List R2) (h0 : IsRecs2 w A n cs) (B : Option Addr) (m d : Nat) (zs : List Int) (g0 : IsInts .i64 w B m zs) : Calls Try.prog 13 #[.slice A n c, .slice B m d] w fun e w' => e = .returned (.bool true) ∧ Below w.heap.size w w' := by
  have hmx := h0.1
  have gmx := g0.1
  unfold maxLen at hmx gmx
  have h := h0.2.1
  have g := g0.ints
  by_cases hbg : 1048576 < m
  · have h' : (1048576 : Int) < (m : Int) := by omega
    go_enter Try.func13, Try.ntmps13
    go_wp2_with fail
    go_ret
    exact ⟨rfl, Below.refl _ _⟩
  have hm : m ≤ 1048576 := by omega
  have hm' : ¬ (1048576 : Int) < (m : Int) := by omega
  by_cases hbig : 1048576 < n
  · have h' : (1048576 : Int) < (n : Int) := by omega
    go_enter Try.func13, Try.ntmps13
    go_wp2_with (go_at_call 26; refine (szGoodS_big _ _ _ _ _ (by omega) (by omega) (by omega) (by omega)).mono ?_; rintro e w' ⟨rfl, rfl⟩)
    go_ret
    exact ⟨rfl, Below.refl _ _⟩
  have hn : n ≤ 1048576 := by omega
  have h' : ¬ (1048576 : Int) < (n : Int) := by omega
  have e1 : decide (cs = cs) = true := by simp
  have e2 : decide (zs = zs) = true := by simp
  have hB := Below.refl w.heap.size w
  go_enter Try.func13, Try.ntmps13
  go_wp2_with (go_at_call 26; refine (szGoodS_small _ _ _ _ _ (by omega) (by omega)).mono ?_; rintro e w' ⟨rfl, rfl⟩)
  refine (toGoodS_any _ _ _ _ _ h hn).mono ?_
  rintro e w1 ⟨rfl, ho1, hb1⟩
  go_wp2_with fail
  refine (toInt64S_any _ _ _ _ _ (g.keep hb1) hm).mono ?_
  rintro e w2 ⟨rfl, hp2, hb2⟩
  have hB2 := belowT hb2 hb1
  go_wp2_with fail
  refine (specBestHandle_any _ _ _ _ _ _ _ _ _ (ho1.recs.keep hb2) (OwnI.ints hp2) hn hm).mono ?_
  rintro e w3 ⟨rfl, hb3⟩
  have hB3 := belowT hb3 hB2
  go_wp2_with fail
  refine (toGoodS_any _ _ _ _ _ (h.keep hB3) hn).mono ?_
  rintro e w4 ⟨rfl, ho4, hb4⟩
  have hB4 := belowT hb4 hB3
  go_wp2_with fail
  refine (toInt64S_any _ _ _ _ _ (g.keep hB4) hm).mono ?_
  rintro e w5 ⟨rfl, hp5, hb5⟩
  have hB5 := belowT hb5 hB4
  go_wp2_with fail
  refine (implBestHandle_any _ _ _ _ _ _ _ _ _ (ho4.recs.keep hb5) (OwnI.ints hp5) hn hm).mono ?_
  rintro e w6 ⟨rfl, hb6⟩
  have hB6 := belowT hb6 hB5
  go_wp2_with fail
  refine (toGoodS_any _ _ _ _ _ (h.keep hB6) hn).mono ?_
  rintro e w7 ⟨rfl, ho7, hb7⟩
  have hB7 := belowT hb7 hB6
  go_wp2_with fail
  refine (eqGoodS_any _ _ _ _ _ _ _ _ _ (((ho4.recs.keep hb5).keep hb6).keep hb7) ho7.recs hn hn).mono ?_
  rintro e w8 ⟨rfl, hb8⟩
  have hB8 := belowT hb8 hB7
  go_wp2_with fail
  refine (toInt64S_any _ _ _ _ _ (g.keep hB8) hm).mono ?_
  rintro e w9 ⟨rfl, hp9, hb9⟩
  have hB9 := belowT hb9 hB8
  go_wp2_with fail
  refine (eqI_same _ _ _ _ _ _ _ (((((OwnI.ints hp5).keep hb6).keep hb7).keep hb8).keep hb9) (OwnI.ints hp9) hm).mono ?_
  rintro e w10 ⟨rfl, hb10⟩
  go_wp2
  go_ret
  exact ⟨rfl, belowT hb10 hB9⟩
end Go.Proofs.Ytkkipkmjhakknaa
