/- FnGoods: the law. -/
import Derived.Test.YtkkipkmjhakknaaGoodF
import Derived.Test.YtkkipkmjhakknaaA2
namespace Go.Proofs.Ytkkipkmjhakknaa
open Go.RowKit
set_option linter.unusedVariables false
set_option linter.unusedSimpArgs false

def DrewGoods (w : World) (e : Ending) (w' : World) : Prop :=
  ∃ C q c cs, e = .returned (.slice C q c) ∧ Recs w' C q cs ∧ okGs cs = true ∧ q ≤ 5 ∧ (∀ x ∈ cs, x.1 ≤ 1000 ∧ x.2 ≤ 40) ∧ Below w.heap.size w w'
theorem a2Goods_any (A : Option Addr) (n c : Nat) (w : World) (h : Bytes w w.heap.size A n) : Calls Try.prog 21 #[.slice A n c] w (DrewGoods w) := by
  go_enter Try.func21, Try.ntmps21
  go_wp2_with fail
  refine (l00From_any _ _ _ _ _ h (Nat.le_refl _)).mono ?_
  rintro e w1 ⟨rfl, hs1, hB⟩
  go_wp2_with fail
  refine (l14Draw_any _ _ _ _ hs1 (by omega)).mono ?_
  rintro e w2 ⟨C, q, c, cs, rfl, hr, ho, hq, hb, hs2, hg2⟩
  go_wp2_with fail
  go_ret
  exact ⟨_, _, _, _, rfl, hr.recs, ho, hq, hb, hs1.below hB (Nat.le_refl _) hg2⟩
theorem new_two (w : World) (a b : Int) (t : TypeId) : (w.alloc (.cells #[.int .i64 a, .int .i64 b] t)).cell? ⟨w.heap.size, 0, none⟩ = some (.int .i64 a) ∧ (w.alloc (.cells #[.int .i64 a, .int .i64 b] t)).cell? ⟨w.heap.size, 1, none⟩ = some (.int .i64 b) := ⟨by go_cell, by go_cell⟩
theorem keepa {w : World} {p : Addr} {v : Value} (h : w.cell? p = some v) (o : Obj) : (w.alloc o).cell? p = some v := keepc ((Below.refl _ _).alloc (Nat.le_refl _) o) h

theorem sgn_bd (M : Int) : -1 ≤ sgn M ∧ sgn M ≤ 1 := by
  unfold sgn
  by_cases h : M < 0
  · rw [if_pos h]; omega
  · rw [if_neg h]
    by_cases h2 : 0 < M
    · rw [if_pos h2]; omega
    · rw [if_neg h2]; omega
theorem sgn_pos (M : Int) : decide (0 < sgn M) = decide (0 < M) := by
  rw [decide_eq_decide]
  unfold sgn
  by_cases h : M < 0
  · rw [if_pos h]; omega
  · rw [if_neg h]
    by_cases h2 : 0 < M
    · rw [if_pos h2]; omega
    · rw [if_neg h2]; omega
theorem sgn_neg (M : Int) : decide (sgn M < 0) = decide (M < 0) := by
  rw [decide_eq_decide]
  unfold sgn
  by_cases h : M < 0
  · rw [if_pos h]; omega
  · rw [if_neg h]
    by_cases h2 : 0 < M
    · rw [if_pos h2]; omega
    · rw [if_neg h2]; omega
set_option maxRecDepth 100000 in
set_option maxHeartbeats 8000000 in
theorem law_FnGoods (w : World) (A : Option Addr) (n c : Nat) (zs : List Int) (h0 : IsInts .u8 w A n zs) (B : Option Addr) (m d : Nat) (ys : List Int) (g0 : IsInts .u8 w B m ys) : Calls Try.prog 9 #[.slice A n c, .slice B m d] w fun e w' => e = .returned (.bool true) ∧ Below w.heap.size w w' := by
  have hY := bytes_of h0
  have hZ := bytes_of g0
  cases hbig : decide (3000 < n ∨ 3000 < m)
  case true =>
    go_enter Try.func9, Try.ntmps9
    go_wp2_with fail
    refine (a2Long_any _ _ _ _ _ _ true _ hY.1 hZ.1 hbig).mono ?_
    rintro e w' ⟨rfl, rfl⟩
    go_wp2_with fail
    go_ret
    exact ⟨rfl, Below.refl _ _⟩
  go_enter Try.func9, Try.ntmps9
  go_wp2_with fail
  refine (a2Long_any _ _ _ _ _ _ false _ hY.1 hZ.1 hbig).mono ?_
  rintro e w' ⟨rfl, rfl⟩
  clear hbig
  go_wp2_with fail
  refine (a2Goods_any _ _ _ _ hY).mono ?_
  rintro e w1 ⟨C, q, cq, cs, rfl, hr1, ho, hq, hbd, hB1⟩
  have hZ1 := hZ.keep hB1
  have hqn : q ≤ 1048576 := by omega
  go_wp2_with fail
  refine (a2At_any _ _ _ 0 _ _ _ hZ1 (by omega) (by omega)).mono ?_
  rintro e w' ⟨hd, rfl, hd0, hd1, rfl⟩
  go_wp2_with fail
  refine (a2At_any _ _ _ 1 _ _ _ hZ1 (by omega) (by omega)).mono ?_
  rintro e w' ⟨pl, rfl, pl0, pl1, rfl⟩
  clear hZ hZ1 hY
  have ihd : inB hd 0 1000 = true := (inB_iff _ _ _).2 ⟨by omega, by omega⟩
  have hT : tiltV cs hd = (sgn (momentI hd cs), 0) := by simp only [tiltV, ho, ihd, if_true]
  have HT := Lib.hid hT
  clear hT ihd
  go_wp2_with fail
  refine (implTiltAt_any _ _ _ _ _ _ hr1 hqn).mono ?_
  rw [HT.out]
  rintro e w2 ⟨rfl, hb2⟩
  have hr2 := hr1.keep hb2
  have hB2 := belowT hb2 hB1
  clear hr1 hB1 hb2
  have HC := Lib.hid (show centreF cs = ((centreF cs).1, (centreF cs).2.1, (centreF cs).2.2) from rfl)
  have HC2 := Lib.hid (show cs.length ≠ 0 → ∃ cn cd : Int, ((centreF cs).1, (centreF cs).2.1, (centreF cs).2.2) = (cn, cd, 0) ∧ (1 ≤ cd ∧ cd ≤ 100000) ∧ (0 ≤ cn ∧ cn ≤ 100000000) ∧ cn * weightI cs = momentI 0 cs * cd from fun h => centre_facts ho h)
  have HC3 := Lib.hid (show cs.length = 0 → ((centreF cs).1, (centreF cs).2.1, (centreF cs).2.2) = (0, 0, 3) from fun h => by show centreF cs = _; unfold centreF; rw [if_pos ho, if_pos h])
  generalize (centreF cs).1 = cn at *
  generalize (centreF cs).2.1 = cd at *
  generalize (centreF cs).2.2 = ce at *
  go_wp2_with fail
  refine (implCentreOf_any _ _ _ _ _ hr2 hqn).mono ?_
  rw [HC.out]
  rintro e w3 ⟨rfl, hb3⟩
  have hr3 := hr2.keep hb3
  have hB3 := belowT hb3 hB2
  clear hr2 hB2 hb3
  go_wp2_with fail
  obtain ⟨x0, x1⟩ := new_two w3 cn cd 52
  have hr4 := hr3.alloc (.cells #[.int .i64 cn, .int .i64 cd] 52)
  have hB4 := hB3.alloc hB3.size (.cells #[.int .i64 cn, .int .i64 cd] 52)
  generalize w3.heap.size = X at *
  generalize w3.alloc (.cells #[.int .i64 cn, .int .i64 cd] 52) = w4 at *
  clear hr3 hB3
  obtain ⟨ln, ld, rn, rd, hS, ⟨l0, l1⟩, ⟨r0, r1⟩, ⟨ln0, ln1⟩, ⟨rn0, rn1⟩, hs1, hs2⟩ := shares_facts ho hbd
  have HS := Lib.hid hS
  have HS1 := Lib.hid hs1
  have HS2 := Lib.hid hs2
  clear hS hs1 hs2
  refine (implSharesOf_any _ _ _ _ _ _ _ hr4 hqn).mono ?_
  rw [HS.out]
  rintro e w5 ⟨rfl, hb5⟩
  have hr5 := hr4.keep hb5
  have hB5 := belowT hb5 hB4
  replace x0 := keepc hb5 x0
  replace x1 := keepc hb5 x1
  clear hr4 hB4 hb5
  go_wp2_with fail
  obtain ⟨y0, y1⟩ := new_two w5 ln ld 52
  obtain ⟨z0, z1⟩ := new_two (w5.alloc (.cells #[.int .i64 ln, .int .i64 ld] 52)) rn rd 52
  rw [World.size_alloc] at z0 z1
  replace y0 := keepa y0 (.cells #[.int .i64 rn, .int .i64 rd] 52)
  replace y1 := keepa y1 (.cells #[.int .i64 rn, .int .i64 rd] 52)
  replace x0 := keepa (keepa x0 (.cells #[.int .i64 ln, .int .i64 ld] 52)) (.cells #[.int .i64 rn, .int .i64 rd] 52)
  replace x1 := keepa (keepa x1 (.cells #[.int .i64 ln, .int .i64 ld] 52)) (.cells #[.int .i64 rn, .int .i64 rd] 52)
  have hr6 := (hr5.alloc (.cells #[.int .i64 ln, .int .i64 ld] 52)).alloc (.cells #[.int .i64 rn, .int .i64 rd] 52)
  have hB6 := (hB5.alloc hB5.size (.cells #[.int .i64 ln, .int .i64 ld] 52)).alloc (by have := hB5.size; simp; omega) (.cells #[.int .i64 rn, .int .i64 rd] 52)
  generalize (w5.alloc (.cells #[.int .i64 ln, .int .i64 ld] 52)).alloc (.cells #[.int .i64 rn, .int .i64 rd] 52) = wL at *
  generalize w5.heap.size = Y at *
  clear hr5 hB5
  have HL := Lib.hid hr6.1
  have HW := Lib.hid (weight_bd ho)
  have HM := Lib.hid (moment_bd ho (a := hd) (by omega))
  go_loopw [15, 16, 17] (fun a b i wr => ∃ k : Nat, k ≤ q ∧ i = .int .i64 k ∧ a = .int .i64 (weightI (cs.take k)) ∧ b = .int .i64 (momentI hd (cs.take k)) ∧ ∃ u, wr = wL.drewN u) (fun _ _ i _ => q - (intOf i).toNat)
  case atStart => exact ⟨0, Nat.zero_le _, rfl, by simp [weightI], by simp [momentI], 0, rfl⟩
  case round =>
    obtain ⟨k, hk, rfl, rfl, rfl, nw, rfl⟩ := hrel
    have hwk := HW.out k (by rw [HL.out]; exact hk)
    have hmk := HM.out k (by rw [HL.out]; exact hk)
    by_cases hlt : k < q
    · obtain ⟨b, off, x, rfl, hblt, hx, hc0, hc1⟩ := hr6.at_ hlt
      obtain ⟨x1', x2'⟩ := okG_bd ho hx
      have hmb := mulabs (x := x.1) (y := x.2 - hd) (A := 10000) (B := 1000) (by omega) (by omega) (by omega) (by omega)
      have hs1 : weightI (cs.take (k + 1)) = weightI (cs.take k) + x.1 := by rw [take_snoc' hx, weightI_snoc]
      have hs2 : momentI hd (cs.take (k + 1)) = momentI hd (cs.take k) + x.1 * (x.2 - hd) := by rw [take_snoc' hx, momentI_snoc]
      have H1 := Lib.hid hs1
      have H2 := Lib.hid hs2
      have k0 : (0 : Int) ≤ (k : Int) := by omega
      have k1 : (k : Int) < (q : Int) := by omega
      clear hs1 hs2 hx
      go_wp2
      go_quiet (fail)
      go_wp2
      go_roundw
      case rel => exact ⟨k + 1, by omega, by go_num, by rw [H1.out], by rw [H2.out], (by first | exact ⟨_, rfl⟩ | exact drew2 _ _ _ | exact ⟨0, rfl⟩)⟩
      case measure => simp [intOf]; omega
    · obtain rfl : k = q := by omega
      have et : cs.take k = cs := List.take_of_length_le (by rw [HL.out]; omega)
      rw [et]
      rw [et] at hwk hmk
      clear et HW HM
      have hlin := moment_lin hd cs
      have b0 := momentAll_bd ho (a := 0) (by omega)
      have bM := momentAll_bd ho (a := hd) (by omega)
      have n0 := moment0_nonneg ho
      have hV : counterV cs hd pl = ctr (momentI hd cs) hd pl := by
        unfold counterV
        rw [if_pos ho, if_pos (by rw [(inB_iff hd 0 1000).2 ⟨by omega, by omega⟩, (inB_iff pl 0 1000).2 ⟨by omega, by omega⟩]; rfl)]
      have hs1 := HS1.out
      have hs2 := HS2.out
      have hc2 := HC2.out
      have hc3 := HC3.out
      have w0 := weightAll_bd ho
      rw [HL.out] at hc2 hc3 w0
      have Hc2 := Lib.hid hc2
      have Hc3 := Lib.hid hc3
      clear hc2 hc3
      have hce : Hid (k = 0 → momentI 0 cs = 0 ∧ weightI cs = 0) := fun h => by
        have : cs = [] := List.eq_nil_of_length_eq_zero (by rw [HL.out, h])
        rw [this]; exact ⟨rfl, rfl⟩
      have HV := Lib.hid hV
      clear hV HS1 HS2 HC2 HC3 HT HC HS hwk hmk
      generalize momentI 0 cs = M0 at *
      generalize momentI hd cs = M at *
      generalize weightI cs = W at *
      have p1 := mulb (x := hd) (y := W) (A := 40) (B := 100000) (by omega) (by omega) (by omega) (by omega)
      have e0 : M + hd * W = M0 := by omega
      have p2 := mulb (x := M + hd * W) (y := rd) (A := 100000000) (B := 40) (by omega) (by omega) (by omega) (by omega)
      have p3 := mulb (x := ln) (y := rd) (A := 100000000) (B := 40) (by omega) (by omega) (by omega) (by omega)
      have p4 := mulb (x := rn) (y := ld) (A := 100000000) (B := 40) (by omega) (by omega) (by omega) (by omega)
      have p5 := mulb (x := W) (y := ld) (A := 100000) (B := 40) (by omega) (by omega) (by omega) (by omega)
      have p6 := mulb (x := W * ld) (y := rd) (A := 4000000) (B := 40) (by omega) (by omega) (by omega) (by omega)
      have q2 : (ln * rd + rn * ld != W * ld * rd) = false := by rw [bne_eq_false_iff_eq]; exact hs1
      have q3 : (rn * 40 != (M + hd * W) * rd) = false := by rw [bne_eq_false_iff_eq, e0]; exact hs2
      have u1 : 0 ≤ M + hd * W := by omega
      have u2 : M + hd * W ≤ 100000000 := by omega
      have H0 := Lib.hid e0
      have Hs1 := Lib.hid hs1
      have Hs2 := Lib.hid hs2
      have Hlin := Lib.hid hlin
      clear hs1 hs2 hlin e0 HL
      have k40 : (hd : Int) ≤ 40 := by omega
      rcases Nat.eq_zero_or_pos k with rfl | hkp
      · obtain ⟨hM0, hW0⟩ := hce.out rfl
        have E := Hc3.out rfl
        obtain ⟨rfl, rfl, rfl⟩ : cn = 0 ∧ cd = 0 ∧ ce = 3 := by simpa using E
        have hM : M = 0 := by have := Hlin.out; rw [hM0, hW0, Int.mul_zero] at this; omega
        clear E Hc2 Hc3 hce hM0 hW0
        have HV2 : Hid (counterV cs hd pl = (0, 0)) := HV.out.trans (by rw [hM]; simp [ctr])
        have hsg : sgn M = 0 := by rw [hM]; rfl
        have t1 : (M == 0) = true := by rw [hM]; rfl
        have t2 : M ≤ 0 := by omega
        have t3 : 0 ≤ M := by omega
        clear hM
        rw [hsg]
        clear hsg
        go_wp2_with fail
        refine (implCounterWeight_any _ _ _ _ _ _ _ (hr6.drewN _) hqn).mono ?_
        rw [HV2.out]
        rintro e w8 ⟨rfl, hb8⟩
        go_wp2_with fail
        go_ret
        exact ⟨rfl, belowT hb8 (below_drewN hB6 _)⟩
      obtain ⟨cn', cd', E, ⟨f1, f2⟩, ⟨f3, f4⟩, f5⟩ := Hc2.out (by omega)
      obtain ⟨rfl, rfl, rfl⟩ : cn = cn' ∧ cd = cd' ∧ ce = 0 := by simpa using E
      have p7 := mulb (x := cn) (y := W) (A := 100000000) (B := 100000) (by omega) (by omega) (by omega) (by omega)
      have p8 := mulb (x := M + hd * W) (y := cd) (A := 100000000) (B := 100000) (by have := H0.out; omega) (by have := H0.out; omega) (by omega) (by omega)
      have q4 : (cn * W != (M + hd * W) * cd) = false := by rw [bne_eq_false_iff_eq, H0.out]; exact f5
      have g1 := sgn_bd M
      have g2 := sgn_pos M
      have g3 := sgn_neg M
      obtain ⟨g1a, g1b⟩ := g1
      generalize sgn M = sg at *
      clear E f5 Hc2 Hc3 hce h0 g0 hbd
      go_wp2_with fail
      refine (implCounterWeight_any _ _ _ _ _ _ _ (hr6.drewN _) hqn).mono ?_
      rw [HV.out]
      have pk : pl ≤ 40 := by omega
      clear q2 q3 q4 p1 p2 p3 p4 p5 p6 p7 p8 u1 u2 f1 f2 f3 f4 x0 x1 y0 y1 z0 z1 ho g2 g3 g1a g1b hd1 pl1
      have hB9 : Below w.heap.size w (wL.drewN nw) := below_drewN hB6 _
      obtain ⟨c1, c2⟩ := bM
      rcases Int.lt_trichotomy M 0 with h1 | h1 | h1
      · by_cases h2 : pl = hd
        · have hv : ctr M hd pl = (0, 6) := by unfold ctr; rw [if_neg (by omega), if_pos h2]
          have t1 : (M == 0) = false := by rw [beq_eq_false_iff_ne]; omega
          subst h2
          rw [hv]
          clear hv
          rintro e w8 ⟨rfl, hb8⟩
          go_wp2_with fail
          go_ret
          exact ⟨rfl, belowT hb8 hB9⟩
        by_cases h3 : hd < pl
        · obtain ⟨o1, o2, o3, o4⟩ := ovr_facts (t := -M) (s := pl - hd) (by omega) (by omega)
          have hv : ctr M hd pl = (ovr (-M) (pl - hd), 0) := by unfold ctr; rw [if_neg (by omega), if_neg h2, if_neg (by omega), show (M.natAbs : Int) = -M by omega, show ((pl - hd).natAbs : Int) = pl - hd by omega]
          have t1 : (M == 0) = false := by rw [beq_eq_false_iff_ne]; omega
          have t2 : (pl - hd == 0) = false := by rw [beq_eq_false_iff_ne]; omega
          have m1 : 0 ≤ (ovr (-M) (pl - hd) - 1) * (pl - hd) := Int.mul_nonneg (by omega) (by omega)
          have m2 : ovr (-M) (pl - hd) * (pl - hd) = (ovr (-M) (pl - hd) - 1) * (pl - hd) + (pl - hd) := by grind
          have m3 : ovr (-M) (pl - hd) * (pl - hd) ≤ 1000000000 := by omega
          rw [hv]
          clear hv h2 m2
          generalize hV : ovr _ _ = v at *
          clear hV
          rintro e w8 ⟨rfl, hb8⟩
          go_wp2_with fail
          go_ret
          exact ⟨rfl, belowT hb8 hB9⟩
        · have hv : ctr M hd pl = (0, 9) := by unfold ctr; rw [if_neg (by omega), if_neg h2, if_pos (by omega)]
          have t1 : (M == 0) = false := by rw [beq_eq_false_iff_ne]; omega
          have t2 : (pl - hd == 0) = false := by rw [beq_eq_false_iff_ne]; omega
          have t8 : (decide (hd < pl) == decide (0 < M)) = true := by rw [decide_eq_false (by omega), decide_eq_false (by omega)]; rfl
          have t3 : pl - hd ≤ -1 := by omega
          have t4 : pl + 1 ≤ hd := by omega
          have t5 : M ≤ -1 := by omega
          have t6 : M ≤ 0 := by omega
          have t7 : pl ≤ hd := by omega
          rw [hv]
          clear hv
          rintro e w8 ⟨rfl, hb8⟩
          go_wp2_with fail
          go_ret
          exact ⟨rfl, belowT hb8 hB9⟩
      · have hv : ctr M hd pl = (0, 0) := by unfold ctr; rw [if_pos h1]
        subst h1
        · skip
          rw [hv]
          clear hv
          rintro e w8 ⟨rfl, hb8⟩
          go_wp2_with fail
          go_ret
          exact ⟨rfl, belowT hb8 hB9⟩
      · by_cases h2 : pl = hd
        · have hv : ctr M hd pl = (0, 6) := by unfold ctr; rw [if_neg (by omega), if_pos h2]
          have t1 : (M == 0) = false := by rw [beq_eq_false_iff_ne]; omega
          subst h2
          rw [hv]
          clear hv
          rintro e w8 ⟨rfl, hb8⟩
          go_wp2_with fail
          go_ret
          exact ⟨rfl, belowT hb8 hB9⟩
        by_cases h3 : hd < pl
        · have hv : ctr M hd pl = (0, 9) := by unfold ctr; rw [if_neg (by omega), if_neg h2, if_pos (by omega)]
          have t1 : (M == 0) = false := by rw [beq_eq_false_iff_ne]; omega
          have t2 : (pl - hd == 0) = false := by rw [beq_eq_false_iff_ne]; omega
          have t3 : 1 ≤ pl - hd := by omega
          rw [hv]
          clear hv
          rintro e w8 ⟨rfl, hb8⟩
          go_wp2_with fail
          go_ret
          exact ⟨rfl, belowT hb8 hB9⟩
        · have t3 : pl - hd ≤ -1 := by omega
          have t4 : pl + 1 ≤ hd := by omega
          obtain ⟨o1, o2, o3, o4⟩ := ovr_facts (t := M) (s := -(pl - hd)) (by omega) (by omega)
          have hv : ctr M hd pl = (ovr M (-(pl - hd)), 0) := by unfold ctr; rw [if_neg (by omega), if_neg h2, if_neg (by omega), show (M.natAbs : Int) = M by omega, show ((pl - hd).natAbs : Int) = -(pl - hd) by omega]
          have t1 : (M == 0) = false := by rw [beq_eq_false_iff_ne]; omega
          have t2 : (pl - hd == 0) = false := by rw [beq_eq_false_iff_ne]; omega
          have m1 : 0 ≤ (ovr M (-(pl - hd)) - 1) * (-(pl - hd)) := Int.mul_nonneg (by omega) (by omega)
          have m2 : ovr M (-(pl - hd)) * (-(pl - hd)) = (ovr M (-(pl - hd)) - 1) * (-(pl - hd)) + (-(pl - hd)) := by grind
          have m3 : ovr M (-(pl - hd)) * (-(pl - hd)) ≤ 1000000000 := by omega
          rw [hv]
          clear hv h2 m2
          generalize hV : ovr _ _ = v at *
          clear hV
          rintro e w8 ⟨rfl, hb8⟩
          go_wp2_with fail
          go_ret
          exact ⟨rfl, belowT hb8 hB9⟩
end Go.Proofs.Ytkkipkmjhakknaa
