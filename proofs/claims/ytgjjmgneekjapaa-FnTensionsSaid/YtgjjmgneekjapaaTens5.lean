/- FnTensions: the law. -/
import Derived.Test.YtgjjmgneekjapaaTens4
import Derived.Test.YtgjjmgneekjapaaCane2
namespace Go.Proofs.Ytgjjmgneekjapaa
open Go.RowKit
set_option linter.unusedVariables false
set_option linter.unusedSimpArgs false

theorem Bytes.mono {w : World} {base base' : Nat} {A : Option Addr} {n : Nat} (h : Bytes w base A n) (hb : base ≤ base') : Bytes w base' A n :=
  ⟨h.1, fun hn => by obtain ⟨b, off, e, hlt, hc⟩ := h.2 hn; exact ⟨b, off, e, by omega, hc⟩⟩
theorem f6big_any (A : Option Addr) (n c : Nat) (v : Bool) (w : World) (hn : n ≤ maxLen) (hv : decide (4096 < n) = v) : Calls Try.prog 38 #[.slice A n c] w fun e w' => e = .returned (.bool v) ∧ w = w' := by
  unfold maxLen at hn
  cases v
  · have h1 : ¬ (4096 : Int) < (n : Int) := by have := of_decide_eq_false hv; omega
    clear hv
    go_enter Try.func38, Try.ntmps38
    go_wp2
    go_ret
    exact ⟨rfl, rfl⟩
  · have h1 : (4096 : Int) < (n : Int) := by have := of_decide_eq_true hv; omega
    clear hv
    go_enter Try.func38, Try.ntmps38
    go_wp2
    go_ret
    exact ⟨rfl, rfl⟩
theorem tensV_ok {t s l : Int} (h : (tensV t s l).2 = 0) : 0 ≤ (tensV t s l).1 ∧ (tensV t s l).1 ≤ t := by
  unfold tensV at h ⊢
  split at h
  · rename_i g
    rw [if_pos g]
    simp [inB_iff] at g
    exact tens_bd t l (by omega) (by omega) (by omega) (by omega) _
  · simp at h
theorem tensV_in {t s l : Int} (h1 : inB t 0 100 = true) (h2 : inB s 0 6 = true) (h3 : inB l 0 1000 = true) : tensV t s l = (tens t l s.toNat, 0) := by unfold tensV; simp [h1, h2, h3]
/-- What the least tension holds. -/
theorem leastV_ok {s l h : Int} (e : (leastV s l h).2 = 0) : (0 ≤ (leastV s l h).1 ∧ (leastV s l h).1 ≤ 100) ∧ (∃ o : Int, tensV (leastV s l h).1 s l = (o, 0) ∧ h ≤ o) ∧ (0 < (leastV s l h).1 → ∃ o : Int, tensV ((leastV s l h).1 - 1) s l = (o, 0) ∧ o < h) := by
  by_cases hb : inB s 0 6 = true ∧ inB l 0 1000 = true ∧ inB h 0 100 = true
  case neg => rw [leastV_bad hb] at e; simp at e
  obtain ⟨h1, h2, h3⟩ := hb
  cases hk : leastK s l h with
  | none => rw [leastV_none h1 h2 h3 hk] at e; simp at e
  | some n =>
    rw [leastV_some h1 h2 h3 hk]
    unfold leastK at hk
    rw [List.find?_range_eq_some] at hk
    obtain ⟨hp, hn, hb⟩ := hk
    have hp := of_decide_eq_true hp
    have hn := List.mem_range.1 hn
    refine ⟨⟨by omega, by omega⟩, ⟨_, tensV_in ((inB_iff _ _ _).2 ⟨by omega, by omega⟩) h1 h2, hp⟩, fun hpos => ?_⟩
    have hpos : (0 : Int) < (n : Int) := hpos
    refine ⟨_, tensV_in ((inB_iff _ _ _).2 ⟨by omega, by omega⟩) h1 h2, ?_⟩
    have h9 := hb (n - 1) (by omega)
    have h9 : decide (h ≤ tens ((n - 1 : Nat) : Int) l s.toNat) = false := by cases hd : decide (h ≤ tens ((n - 1 : Nat) : Int) l s.toNat) <;> simp_all only [Bool.not_true, Bool.false_eq_true]
    have h9 := of_decide_eq_false h9
    have e9 : ((n : Int) - 1) = ((n - 1 : Nat) : Int) := by omega
    show tens ((n : Int) - 1) l s.toNat < h
    rw [e9]
    omega
theorem canes_succ (f s a : Int) : canes f s (a + 1) = canes f s a + (4 * (f * s) + 2 * ((min f s) * (min f s - 1))) := by unfold canes; grind
theorem caneV_more {f b s a : Int} (e : (caneV f b s a).2 = 0) (h : a ≠ 50) : ∃ c, caneV f b s (a + 1) = (c, 0) ∧ (caneV f b s a).1 < c := by
  cases ho : okSeat f b s
  · rw [show caneV f b s a = (0, 1) by simp only [caneV, ho, Bool.false_eq_true, if_false]] at e; cases e
  cases hs : inB a 5 50
  · rw [show caneV f b s a = (0, 2) by simp only [caneV, ho, hs, Bool.false_eq_true, if_false, if_true]] at e; cases e
  obtain ⟨⟨f0, f1⟩, ⟨b0, b1⟩, ⟨s0, s1⟩, hmod⟩ := (okSeat_iff _ _ _).1 ho
  obtain ⟨a0, a1⟩ := (inB_iff _ _ _).1 hs
  have hs2 : inB (a + 1) 5 50 = true := (inB_iff _ _ _).2 (by omega)
  refine ⟨canes f s (a + 1), by simp only [caneV, ho, hs2, if_true], ?_⟩
  rw [show caneV f b s a = (canes f s a, 0) by simp only [caneV, ho, hs, if_true]]
  show canes f s a < canes f s (a + 1)
  rw [canes_succ]
  have p1 : 0 < f * s := Int.mul_pos (by omega) (by omega)
  have p2 : 0 ≤ (min f s) * (min f s - 1) := Int.mul_nonneg (by omega) (by omega)
  omega

set_option maxHeartbeats 4000000 in
set_option maxRecDepth 100000 in
theorem law_FnTensions (w : World) (A : Option Addr) (n c : Nat) (zs : List Int) (h0 : IsInts .u8 w A n zs) : Calls Try.prog 12 #[.slice A n c] w fun e w' => e = .returned (.bool true) ∧ Below w.heap.size w w' := by
  have hY := bytes_of h0
  cases hbig : decide (4096 < n)
  case true =>
    go_enter Try.func12, Try.ntmps12
    go_wp2_with fail
    refine (f6big_any _ _ _ true _ hY.1 hbig).mono ?_
    rintro e w' ⟨rfl, rfl⟩
    go_wp2_with fail
    go_ret
    exact ⟨rfl, Below.refl _ _⟩
  go_enter Try.func12, Try.ntmps12
  go_wp2_with fail
  refine (f6big_any _ _ _ false _ hY.1 hbig).mono ?_
  rintro e w' ⟨rfl, rfl⟩
  clear hbig
  go_wp2_with fail
  refine (drawTensionAfter_any _ _ _ _ hY).mono ?_
  rintro e w1 ⟨t, s, l, rfl, hB1⟩
  have hY1 := (hY.keep hB1).mono hB1.size
  have T := tensV_ok (t := t) (s := s) (l := l)
  go_wp2_with fail
  refine (implTensionAfter_any _ _ _ _).mono ?_
  rintro e w' ⟨rfl, rfl⟩
  go_wp2_with fail
  refine (specTensionAfter_any _ _ _ _).mono ?_
  rintro e w' ⟨rfl, rfl⟩
  generalize (tensV t s l).1 = n1 at *
  generalize (tensV t s l).2 = c1 at *
  have T1 := Lib.hid T
  clear T
  go_wp2_with fail
  refine (drawLeastTension_any _ _ _ _ hY1).mono ?_
  rintro e w2 ⟨a, b, ho, rfl, hB2⟩
  have hB2' := belowT hB2 hB1
  have hY2 := (hY1.keep hB2).mono hB2.size
  have L := leastV_ok (s := a) (l := b) (h := ho)
  go_wp2_with fail
  refine (implLeastTension_any _ _ _ _).mono ?_
  rintro e w' ⟨rfl, rfl⟩
  go_wp2_with fail
  refine (specLeastTension_any _ _ _ _).mono ?_
  rintro e w' ⟨rfl, rfl⟩
  generalize (leastV a b ho).1 = m at *
  generalize (leastV a b ho).2 = o at *
  have L1 := Lib.hid L
  clear L
  go_wp2_with fail
  refine (drawCaneFor_any _ _ _ _ hY2).mono ?_
  rintro e w3 ⟨fr, ba, si, ap, rfl, ap0, ap1, hB3⟩
  have hB3' := belowT hB3 hB2'
  go_wp2_with fail
  have x := B3.new w3 fr ba si 25
  have hB4 := hB3'.alloc hB3'.size (.cells #[.int .i64 fr, .int .i64 ba, .int .i64 si] 25)
  generalize w3.heap.size = X at *
  generalize w3.alloc (.cells #[.int .i64 fr, .int .i64 ba, .int .i64 si] 25) = w4 at *
  have C := caneV_more (f := fr) (b := ba) (s := si) (a := ap)
  have CE := Lib.hid (show caneV fr ba si ap = ((caneV fr ba si ap).1, (caneV fr ba si ap).2) from rfl)
  generalize (caneV fr ba si ap).1 = cc at *
  generalize (caneV fr ba si ap).2 = th at *
  have C1 := Lib.hid C
  clear C hB1 hB2 hB2' hB3 hB3'
  have e1 := x.c0
  have e2 := x.c1
  have e3 := x.c2
  go_wp2_with fail
  refine (implCaneFor_any _ _ _ _ _).mono ?_
  rw [CE.out]
  rintro e w5 ⟨rfl, hb5⟩
  have x5 := x.keep hb5
  have hB5 := belowT hb5 hB4
  clear e1 e2 e3 x hb5 hB4
  have e1 := x5.c0
  have e2 := x5.c1
  have e3 := x5.c2
  go_wp2_with fail
  refine (specCaneFor_any _ _ _ _ _).mono ?_
  rw [CE.out]
  rintro e w6 ⟨rfl, hb6⟩
  have x6 := x5.keep hb6
  have hB6 := belowT hb6 hB5
  clear e1 e2 e3 x5 hb6 hB5
  have e1 := x6.c0
  have e2 := x6.c1
  have e3 := x6.c2
  have q1 : (c1 != c1) = false := by simp
  have q2 : (n1 != n1) = false := by simp
  have q3 : (o != o) = false := by simp
  have q4 : (m != m) = false := by simp
  have q5 : (th != th) = false := by simp
  have q6 : (cc != cc) = false := by simp
  have hc1 : c1 = 0 ∨ c1 ≠ 0 := by omega
  rcases hc1 with rfl | hc1
  · obtain ⟨d1, d2⟩ := T1.out rfl
    have ho1 : o = 0 ∨ o ≠ 0 := by omega
    rcases ho1 with rfl | ho1
    · obtain ⟨⟨m0, m1⟩, ⟨u, hu, hu1⟩, L3⟩ := L1.out rfl
      have Hu := Lib.hid hu
      have HL3 := Lib.hid L3
      clear hu L3
      have hm : m = 0 ∨ 0 < m := by omega
      rcases hm with rfl | hm
      · go_wp2_with fail
        refine (implTensionAfter_any _ _ _ _).mono ?_
        rw [Hu.out]
        rintro e w' ⟨rfl, rfl⟩
        have hth : th ≠ 0 ∨ th = 0 := by omega
        rcases hth with hth | rfl
        · have d5 : (th != 0) = true := by simpa using hth
          clear hth
          go_wp2_with fail
          go_ret
          exact ⟨rfl, hB6⟩
        have hap : ap = 50 ∨ ap ≠ 50 := by omega
        rcases hap with rfl | hap
        · go_wp2_with fail
          go_ret
          exact ⟨rfl, hB6⟩
        · obtain ⟨c2, hc2, hc3⟩ := C1.out rfl hap
          have Hc2 := Lib.hid hc2
          have d6 : (ap == 50) = false := by rw [beq_eq_false_iff_ne]; exact hap
          clear hc2 hap
          go_wp2_with fail
          refine (implCaneFor_any _ _ _ _ _).mono ?_
          rw [Hc2.out]
          rintro e w7 ⟨rfl, hb7⟩
          go_wp2_with fail
          go_ret
          exact ⟨rfl, belowT hb7 hB6⟩
      · obtain ⟨v, hv, hv1⟩ := HL3.out hm
        have Hv := Lib.hid hv
        clear hv
        go_wp2_with fail
        refine (implTensionAfter_any _ _ _ _).mono ?_
        rw [Hu.out]
        rintro e w' ⟨rfl, rfl⟩
        go_wp2_with fail
        refine (implTensionAfter_any _ _ _ _).mono ?_
        rw [Hv.out]
        rintro e w' ⟨rfl, rfl⟩
        have hth : th ≠ 0 ∨ th = 0 := by omega
        rcases hth with hth | rfl
        · have d5 : (th != 0) = true := by simpa using hth
          clear hth
          go_wp2_with fail
          go_ret
          exact ⟨rfl, hB6⟩
        have hap : ap = 50 ∨ ap ≠ 50 := by omega
        rcases hap with rfl | hap
        · go_wp2_with fail
          go_ret
          exact ⟨rfl, hB6⟩
        · obtain ⟨c2, hc2, hc3⟩ := C1.out rfl hap
          have Hc2 := Lib.hid hc2
          have d6 : (ap == 50) = false := by rw [beq_eq_false_iff_ne]; exact hap
          clear hc2 hap
          go_wp2_with fail
          refine (implCaneFor_any _ _ _ _ _).mono ?_
          rw [Hc2.out]
          rintro e w7 ⟨rfl, hb7⟩
          go_wp2_with fail
          go_ret
          exact ⟨rfl, belowT hb7 hB6⟩
    · · have d4 : (o == 0) = false := by rw [beq_eq_false_iff_ne]; exact ho1
        clear ho1
        have hth : th ≠ 0 ∨ th = 0 := by omega
        rcases hth with hth | rfl
        · have d5 : (th != 0) = true := by simpa using hth
          clear hth
          go_wp2_with fail
          go_ret
          exact ⟨rfl, hB6⟩
        have hap : ap = 50 ∨ ap ≠ 50 := by omega
        rcases hap with rfl | hap
        · go_wp2_with fail
          go_ret
          exact ⟨rfl, hB6⟩
        · obtain ⟨c2, hc2, hc3⟩ := C1.out rfl hap
          have Hc2 := Lib.hid hc2
          have d6 : (ap == 50) = false := by rw [beq_eq_false_iff_ne]; exact hap
          clear hc2 hap
          go_wp2_with fail
          refine (implCaneFor_any _ _ _ _ _).mono ?_
          rw [Hc2.out]
          rintro e w7 ⟨rfl, hb7⟩
          go_wp2_with fail
          go_ret
          exact ⟨rfl, belowT hb7 hB6⟩
  · have d3 : (c1 == 0) = false := by rw [beq_eq_false_iff_ne]; exact hc1
    clear hc1
    have ho1 : o = 0 ∨ o ≠ 0 := by omega
    rcases ho1 with rfl | ho1
    · obtain ⟨⟨m0, m1⟩, ⟨u, hu, hu1⟩, L3⟩ := L1.out rfl
      have Hu := Lib.hid hu
      have HL3 := Lib.hid L3
      clear hu L3
      have hm : m = 0 ∨ 0 < m := by omega
      rcases hm with rfl | hm
      · go_wp2_with fail
        refine (implTensionAfter_any _ _ _ _).mono ?_
        rw [Hu.out]
        rintro e w' ⟨rfl, rfl⟩
        have hth : th ≠ 0 ∨ th = 0 := by omega
        rcases hth with hth | rfl
        · have d5 : (th != 0) = true := by simpa using hth
          clear hth
          go_wp2_with fail
          go_ret
          exact ⟨rfl, hB6⟩
        have hap : ap = 50 ∨ ap ≠ 50 := by omega
        rcases hap with rfl | hap
        · go_wp2_with fail
          go_ret
          exact ⟨rfl, hB6⟩
        · obtain ⟨c2, hc2, hc3⟩ := C1.out rfl hap
          have Hc2 := Lib.hid hc2
          have d6 : (ap == 50) = false := by rw [beq_eq_false_iff_ne]; exact hap
          clear hc2 hap
          go_wp2_with fail
          refine (implCaneFor_any _ _ _ _ _).mono ?_
          rw [Hc2.out]
          rintro e w7 ⟨rfl, hb7⟩
          go_wp2_with fail
          go_ret
          exact ⟨rfl, belowT hb7 hB6⟩
      · obtain ⟨v, hv, hv1⟩ := HL3.out hm
        have Hv := Lib.hid hv
        clear hv
        go_wp2_with fail
        refine (implTensionAfter_any _ _ _ _).mono ?_
        rw [Hu.out]
        rintro e w' ⟨rfl, rfl⟩
        go_wp2_with fail
        refine (implTensionAfter_any _ _ _ _).mono ?_
        rw [Hv.out]
        rintro e w' ⟨rfl, rfl⟩
        have hth : th ≠ 0 ∨ th = 0 := by omega
        rcases hth with hth | rfl
        · have d5 : (th != 0) = true := by simpa using hth
          clear hth
          go_wp2_with fail
          go_ret
          exact ⟨rfl, hB6⟩
        have hap : ap = 50 ∨ ap ≠ 50 := by omega
        rcases hap with rfl | hap
        · go_wp2_with fail
          go_ret
          exact ⟨rfl, hB6⟩
        · obtain ⟨c2, hc2, hc3⟩ := C1.out rfl hap
          have Hc2 := Lib.hid hc2
          have d6 : (ap == 50) = false := by rw [beq_eq_false_iff_ne]; exact hap
          clear hc2 hap
          go_wp2_with fail
          refine (implCaneFor_any _ _ _ _ _).mono ?_
          rw [Hc2.out]
          rintro e w7 ⟨rfl, hb7⟩
          go_wp2_with fail
          go_ret
          exact ⟨rfl, belowT hb7 hB6⟩
    · · have d4 : (o == 0) = false := by rw [beq_eq_false_iff_ne]; exact ho1
        clear ho1
        have hth : th ≠ 0 ∨ th = 0 := by omega
        rcases hth with hth | rfl
        · have d5 : (th != 0) = true := by simpa using hth
          clear hth
          go_wp2_with fail
          go_ret
          exact ⟨rfl, hB6⟩
        have hap : ap = 50 ∨ ap ≠ 50 := by omega
        rcases hap with rfl | hap
        · go_wp2_with fail
          go_ret
          exact ⟨rfl, hB6⟩
        · obtain ⟨c2, hc2, hc3⟩ := C1.out rfl hap
          have Hc2 := Lib.hid hc2
          have d6 : (ap == 50) = false := by rw [beq_eq_false_iff_ne]; exact hap
          clear hc2 hap
          go_wp2_with fail
          refine (implCaneFor_any _ _ _ _ _).mono ?_
          rw [Hc2.out]
          rintro e w7 ⟨rfl, hb7⟩
          go_wp2_with fail
          go_ret
          exact ⟨rfl, belowT hb7 hB6⟩
end Go.Proofs.Ytgjjmgneekjapaa
