/- The law FnPacking: for every input it returns true and leaves its arguments alone. No condition. -/
import Derived.Test.YtkkipkmjhakknaaPkF
import Derived.Test.YtkkipkmjhakknaaPackI
namespace Go.Proofs.Ytkkipkmjhakknaa
open Go.RowKit
set_option linter.unusedVariables false
set_option linter.unusedSimpArgs false

def DrewGoodsP (w : World) (e : Ending) (w' : World) : Prop :=
  ∃ C q c cs, e = .returned (.slice C q c) ∧ Recs w' C q cs ∧ okGs cs = true ∧ q ≤ 5 ∧ (∀ x ∈ cs, x.1 ≤ 1000 ∧ x.2 ≤ 40) ∧ Below w.heap.size w w'
theorem a2GoodsP_any (A : Option Addr) (n c : Nat) (w : World) (h : Bytes w w.heap.size A n) : Calls Try.prog 21 #[.slice A n c] w (DrewGoodsP w) := by
  go_enter Try.func21, Try.ntmps21
  go_wp2_with fail
  refine (l00From_any _ _ _ _ _ h (Nat.le_refl _)).mono ?_
  rintro e w1 ⟨rfl, hs1, hB⟩
  go_wp2_with fail
  refine (l14Draw_any _ _ _ _ hs1 (by omega)).mono ?_
  rintro e w2 ⟨C, q, c, cs, rfl, hr, ho, hq, hb, hs2, hg2⟩
  go_wp2_with fail
  go_ret
  exact ⟨_, _, _, _, rfl, hr.recs, ho, hq, hb, hs1.below hB (Nat.le_refl _) hg2⟩
set_option maxRecDepth 100000 in
set_option maxHeartbeats 8000000 in
theorem law_FnPacking (w : World) (A : Option Addr) (n c : Nat) (zs : List Int) (h0 : IsInts .u8 w A n zs) (B : Option Addr) (m d : Nat) (ys : List Int) (g0 : IsInts .u8 w B m ys) : Calls Try.prog 3 #[.slice A n c, .slice B m d] w fun e w' => e = .returned (.bool true) ∧ Below w.heap.size w w' := by
  have hY := bytes_of h0
  have hZ := bytes_of g0
  cases hbig : decide (3000 < n ∨ 3000 < m)
  case true =>
    go_enter Try.func3, Try.ntmps3
    go_wp2_with fail
    refine (a2Long_any _ _ _ _ _ _ true _ hY.1 hZ.1 hbig).mono ?_
    rintro e w' ⟨rfl, rfl⟩
    go_wp2_with fail
    go_ret
    exact ⟨rfl, Below.refl _ _⟩
  go_enter Try.func3, Try.ntmps3
  go_wp2_with fail
  refine (a2Long_any _ _ _ _ _ _ false _ hY.1 hZ.1 hbig).mono ?_
  rintro e w' ⟨rfl, rfl⟩
  clear hbig h0 g0
  go_wp2_with fail
  refine (a2Weights_any _ _ _ _ hY).mono ?_
  rintro e w1 ⟨C1, q1, c1, ws, rfl, hw1, ⟨_, q14⟩, hwr, hB1⟩
  go_wp2_with fail
  refine (a2Places_any _ _ _ q1 _ ((hZ.keep hB1).up hB1.size) (by omega)).mono ?_
  rintro e w2 ⟨C2, q2, c2, ps, rfl, hp2, ⟨qlo, qhi⟩, hpr, hb⟩
  have hw2 := OwnI.keep hw1 hb
  have hB2 := belowT hb hB1
  clear hw1 hb hB1
  go_wp2_with fail
  refine (a2At_any _ _ _ 0 _ w.heap.size _ (hZ.keep hB2) (by omega) (by omega)).mono ?_
  rintro e w' ⟨hd, rfl, hd0, hd1, rfl⟩
  have hWL := OwnI.len hw2
  have hPL := OwnI.len hp2
  obtain ⟨us, lv, hV, hPu, hul, hmom, lv0, hleast⟩ := pack_facts (ws := ws) (ps := ps) (z := hd) (by omega) (by omega) hwr hpr (by omega) (by omega) (by omega)
  have hwi := OwnI.ints hw2
  have hpi := OwnI.ints hp2
  have HV := Lib.hid hV
  have HP := Lib.hid hPu
  have HM := Lib.hid hmom
  have HL := Lib.hid hleast
  have HW := Lib.hid (show ∀ x ∈ ws, 0 ≤ x ∧ x ≤ 10000 from fun x hx => by have := hwr x hx; omega)
  have HQ := Lib.hid (show ∀ x ∈ ps, 0 ≤ x ∧ x ≤ 1000 from fun x hx => by have := hpr x hx; omega)
  have lvb := momP_bd ws ps hd us HW.out HQ.out hd0 (by omega)
  have lvt : lv ≤ 100000000 := by
    have := HM.out
    unfold absI at this
    split at this <;> omega
  clear hV hPu hmom hleast hwr hpr lvb hw2 hp2
  go_wp2_with fail
  refine (implPack_any _ _ _ _ _ _ _ _ _ _ hwi hpi (by omega) (by omega)).mono ?_
  unfold PackPost
  rw [HV.out]
  rintro e w3 ⟨D, r, t, rfl, hg, hb⟩
  have hrl := OwnI.len hg
  obtain rfl : r = q1 := by simp only at hrl; omega
  clear HV hrl
  simp only at hg
  have hB3 := belowT hb hB2
  replace hwi := hwi.keep hb
  replace hpi := hpi.keep hb
  have hcap := own_cap hg
  have hgi := OwnI.ints hg
  obtain ⟨hcap1, hcap2⟩ := hcap
  have hlv : (lv != lv) = false := bne_self_eq_false _
  clear hb hB2 hg
  go_wp2_with fail
  refine (a2Turn_any _ _ _ _ _ _ _ _ _ ws ps us hd lv _ hwi hpi hgi (by omega) (by omega) (Nat.le_refl _) (by omega) hcap1 hcap2 HP.out HW.out HQ.out hd0 (by omega) HM.out).mono ?_
  rintro e w4 ⟨rfl, hb⟩
  have hB4 := belowT hb hB3
  replace hwi := hwi.keep hb
  replace hpi := hpi.keep hb
  clear hb hB3 hgi HM HP hcap1 hcap2
  go_wp2_with fail
  refine (a2Order_any _ _ _ q2 _ ((hY.keep hB4).up hB4.size) (by omega)).mono ?_
  rintro e w5 ⟨g5, c5, os, rfl, ho5, ⟨hc5, hm5⟩, hPo, hb⟩
  have hB5 := belowT hb hB4
  replace hwi := hwi.keep hb
  replace hpi := hpi.keep hb
  have hOL := OwnI.len ho5
  have hok := (OwnI.ints ho5).take (show r ≤ q2 by omega)
  have hPt : Plc ps.length (os.take r) := by rw [hPL]; exact plc_take hPo
  have hlm := HL.out _ hPt (by rw [List.length_take, hOL]; omega)
  have HPt := Lib.hid hPt
  have hrc : r ≤ c5 := by omega
  unfold maxLen at hm5
  clear hb hB4 ho5 HL hPt hPo
  obtain ⟨tv, htv⟩ : ∃ tv, absI (momP ws ps hd (os.take r)) = tv := ⟨_, rfl⟩
  rw [htv] at hlm
  have HT := Lib.hid htv
  have t1 : decide (tv < lv) = false := decide_eq_false (by omega)
  have t2 : ¬ tv < lv := by omega
  clear htv
  go_wp2_with fail
  refine (a2Turn_any _ _ _ _ _ _ _ _ _ ws ps (os.take r) hd tv _ hwi hpi hok (by omega) (by omega) (Nat.le_refl _) (by omega) hrc (by omega) HPt.out HW.out HQ.out hd0 (by omega) HT.out).mono ?_
  rintro e w6 ⟨rfl, hb⟩
  have hB6 := belowT hb hB5
  clear hb hB5 HT HPt hok hwi hpi HW HQ hOL hWL hPL hul
  go_wp2_with fail
  refine (a2GoodsP_any _ _ _ _ ((hY.keep hB6).up hB6.size)).mono ?_
  rintro e w7 ⟨C7, q7, c7, cs, rfl, hr, hog, hq7, hbd, hb⟩
  have hB7 := belowT hb hB6
  clear hb hB6
  go_wp2_with fail
  refine (a2Places_any _ _ _ 1 _ ((hY.keep hB7).up hB7.size) (by omega)).mono ?_
  rintro e w8 ⟨C8, q8, c8, hs, rfl, hh, ⟨q8lo, q8hi⟩, hhr, hb⟩
  have hB8 := belowT hb hB7
  replace hr := hr.keep hb
  have hhl := OwnI.len hh
  replace hh := OwnI.ints hh
  clear hb hB7
  have hrl := hr.1
  obtain ⟨kv, two, hHV, hHF⟩ : ∃ kv two : Int, handV cs hs = (kv, two) ∧ ((q7 = 0 ∧ two = 3) ∨ (0 < q7 ∧ two = 0 ∧ ∃ k : Nat, kv = k ∧ k < q8 ∧ ∀ j : Nat, j < q8 → absI (momentI (hs.getD k 0) cs) ≤ absI (momentI (hs.getD j 0) cs))) := by
    by_cases hc : cs.length = 0
    · exact ⟨_, _, hand_none hog (by omega) hhr hc, .inl ⟨by omega, rfl⟩⟩
    · obtain ⟨k, a, b, c⟩ := hand_facts (hs := hs) hog (by omega) (by omega) hhr hc
      rw [hhl] at b c
      exact ⟨_, _, a, .inr ⟨by omega, rfl, k, rfl, b, c⟩⟩
  have HHF := Lib.hid hHF
  have HHV := Lib.hid hHV
  clear hHF hHV
  go_wp2_with fail
  refine (implBestHandle_any _ _ _ _ _ _ _ _ _ hr hh (by omega) (by omega)).mono ?_
  rw [HHV.out]
  rintro e w9 ⟨rfl, hb⟩
  have hB9 := belowT hb hB8
  replace hr := hr.keep hb
  replace hh := hh.keep hb
  clear hb hB8 HHV
  go_wp2_with fail
  refine (a2At_any _ _ _ 1 _ w.heap.size _ (hZ.keep hB9) (by omega) (by omega)).mono ?_
  rintro e w' ⟨sv, rfl, sv0, sv1, rfl⟩
  have hst0 : 100 ≤ 100 * (1 + sv) := by omega
  have hst1 : 100 * (1 + sv) ≤ 2000 := by omega
  go_wp2_with fail
  generalize 100 * (1 + sv) = st at *
  obtain ⟨sn, hS, sn0, sn1, hS1, hS2⟩ := strand_facts (s := st) hog ⟨hst0, hst1⟩
  have HS := Lib.hid hS
  have HS1 := Lib.hid hS1
  have HS2 := Lib.hid hS2
  clear hS hS1 hS2
  refine (implStrandsFor_any _ _ _ _ _ _ _ hr (by omega)).mono ?_
  rw [HS.out]
  rintro e w10 ⟨rfl, hb⟩
  have hB10 := belowT hb hB9
  replace hr := hr.keep hb
  replace hh := hh.keep hb
  clear hb hB9 HS
  go_wp2_with fail
  have HCL := Lib.hid hrl
  have HWt := Lib.hid (weight_bd hog)
  go_loop [19, 20] (fun s i => ∃ k : Nat, k ≤ q7 ∧ i = .int .i64 k ∧ s = .int .i64 (weightI (cs.take k))) (fun _ i => q7 - (intOf i).toNat)
  case atStart => exact ⟨0, Nat.zero_le _, rfl, by simp [weightI]⟩
  case round =>
    obtain ⟨k, hk, rfl, rfl⟩ := hrel
    have hwk := HWt.out k (by rw [HCL.out]; exact hk)
    by_cases hlt : k < q7
    · obtain ⟨b, off, x, rfl, hblt, hx, hc0, hc1⟩ := hr.at_ hlt
      obtain ⟨x1', x2'⟩ := okG_bd hog hx
      have hs1 : weightI (cs.take (k + 1)) = weightI (cs.take k) + x.1 := by rw [take_snoc' hx, weightI_snoc]
      have H1 := Lib.hid hs1
      have k0 : (0 : Int) ≤ (k : Int) := by omega
      have k1 : (k : Int) < (q7 : Int) := by omega
      clear hs1 hx
      go_wp2
      go_round
      case rel => exact ⟨k + 1, by omega, by go_num, by rw [H1.out]⟩
      case measure => simp [intOf]; omega
    · obtain rfl : k = q7 := by omega
      have et : cs.take k = cs := List.take_of_length_le (by rw [HCL.out]; omega)
      rw [et]
      rw [et] at hwk
      have hs1 := HS1.out
      have hs2 := HS2.out
      have hW0 : 0 ≤ weightI cs := by omega
      have hW1 : weightI cs ≤ 100000 := by omega
      clear et HWt HS1 HS2 HCL hwk
      generalize weightI cs = W at *
      have p1 := mulb (x := sn) (y := st) (A := 300000) (B := 2000) (by omega) (by omega) (by omega) (by omega)
      obtain ⟨p1a, p1b⟩ := p1
      have m2 : (sn - 1) * st = sn * st - st := by grind
      have m3 : (sn - 1) * st ≤ 1000000000 := by omega
      have m4 : -1000000000 ≤ (sn - 1) * st := by omega
      have hS : (sn = 0) ∨ (0 < sn ∧ (sn - 1) * st < 3 * W) := by
        rcases Int.lt_or_eq_of_le sn0 with h | h
        · exact .inr ⟨h, hs2 h⟩
        · exact .inl h.symm
      clear hs2 m2
      as_aux_lemma =>
      rcases HHF.out with ⟨rfl, rfl⟩ | ⟨hk0, rfl, kk, rfl, hkk, hbest⟩
      · clear HHF
        rcases hS with rfl | ⟨hsp, hsl⟩
        · go_wp2_with fail
          go_ret
          exact ⟨rfl, hB10⟩
        · have hsq : ¬ 3 * W ≤ (sn - 1) * st := by omega
          go_wp2_with fail
          go_ret
          exact ⟨rfl, hB10⟩
      clear HHF
      have HBest := Lib.hid hbest
      clear hbest
      have kk0 : (0 : Int) ≤ (kk : Int) := by omega
      have kk1 : (kk : Int) < (q8 : Int) := by omega
      have kz : ¬ ((k : Int) = 0) := by omega
      have kz2 : ((k : Int) == 0) = false := by rw [beq_eq_false_iff_ne]; exact kz
      rcases hS with rfl | ⟨hsp, hsl⟩
      · go_wp2_with fail
        clear p1a p1b m3 m4 hW0 hW1 hs1 sn1 sn0
        as_aux_lemma =>
        go_loopw [21] (fun i wr => ∃ j : Nat, j ≤ q8 ∧ i = .int .i64 j ∧ Below w10.heap.size w10 wr) (fun i _ => q8 - (intOf i).toNat)
        case atStart => exact ⟨0, Nat.zero_le _, rfl, Below.refl _ _⟩
        case round =>
          obtain ⟨j, hj, rfl, hBr⟩ := hrel
          have hrr := hr.keep hBr
          have hhr2 := hh.keep hBr
          have hB11 := belowT hBr hB10
          by_cases hjq : j < q8
          · obtain ⟨b, off, y, rfl, hblt, hy, hcy⟩ := hhr2.at_ hjq
            obtain ⟨b', off', y2, hAe, hblt', hy2, hcy2⟩ := hhr2.at_ hkk
            injection hAe with hAe
            injection hAe with hA1 hA2
            subst hA1 hA2
            obtain ⟨i1, i2⟩ := hhr y (List.mem_of_getElem? hy)
            obtain ⟨j1, j2⟩ := hhr y2 (List.mem_of_getElem? hy2)
            obtain ⟨f1, hf1⟩ : ∃ v, absI (momentI y cs) = v := ⟨_, rfl⟩
            obtain ⟨f2, hf2⟩ : ∃ v, absI (momentI y2 cs) = v := ⟨_, rfl⟩
            have hle := HBest.out j hjq
            rw [getD_of hy, getD_of hy2, hf1, hf2] at hle
            have O1 := Lib.hid hf1
            have O2 := Lib.hid hf2
            clear hf1 hf2 hy hy2
            have j0 : (0 : Int) ≤ (j : Int) := by omega
            have j9 : (j : Int) < (q8 : Int) := by omega
            have t1 : decide (f1 < f2) = false := decide_eq_false (by omega)
            have hrb := Box.mk hrr
            clear hrr hhr2
            go_wp2_with fail
            go_region_held3 (fun w' => Box (Recs w' C7 k cs) ∧ w'.cell? ⟨b, off + j, none⟩ = some (.int .i64 y) ∧ w'.cell? ⟨b, off + kk, none⟩ = some (.int .i64 y2) ∧ Below w10.heap.size w10 w')
              (((try go_split_ands); (try dsimp only); (repeat' apply And.intro)) <;> first | assumption | exact keepd (by assumption) | exact Below.drew (by assumption) | exact keepc hb2 (by assumption) | exact belowT hb2 (by assumption) | exact Box.mk (Recs.keep (Box.out (by assumption)) hb2) | exact Box.mk (Recs.keep (Box.out (by assumption)) (drew_below1 _)))
              (first | (go_at_call 24; (with_reducible refine (a2About_any _ _ _ _ y f1 _ (Box.out (by go_split_ands; assumption)) (by omega) hog (by omega) (by omega) O1.out).mono ?_); rintro e w' ⟨rfl, hb2⟩) | (go_at_call 24; (with_reducible refine (a2About_any _ _ _ _ y2 f2 _ (Box.out (by go_split_ands; assumption)) (by omega) hog (by omega) (by omega) O2.out).mono ?_); rintro e w' ⟨rfl, hb2⟩))
            go_wp2
            go_roundw
            case rel => exact ⟨j + 1, by omega, by go_num, by go_split_ands; assumption⟩
            case measure => simp [intOf]; omega
          · obtain rfl : j = q8 := by omega
            clear HBest hBr hkk kk0 kk1 hhr2 hh hhr
            obtain ⟨b, off, x, rfl, hblt, hx, hcx0, hcx1⟩ := hrr.at_ hk0
            obtain ⟨x1', x2'⟩ := okG_bd hog hx
            obtain ⟨hV, hod, hme, ml0, m0⟩ := without_facts hog hx
            have bl := momentAll_bd hod (a := 0) (by omega)
            have b0 := momentAll_bd hog (a := 0) (by omega)
            have px := mulb (x := x.1) (y := x.2) (A := 10000) (B := 1000) (by omega) (by omega) (by omega) (by omega)
            obtain ⟨f1, hf1⟩ : ∃ v, absI (momentI 0 (cs.drop 1)) = v := ⟨_, rfl⟩
            obtain ⟨f2, hf2⟩ : ∃ v, absI (momentI 0 cs) = v := ⟨_, rfl⟩
            have e1 : f1 = momentI 0 (cs.drop 1) := by rw [← hf1]; unfold absI; rw [if_neg (by omega)]
            have e2 : f2 = momentI 0 cs := by rw [← hf2]; unfold absI; rw [if_neg (by omega)]
            have tf : (f1 == f2 - x.1 * x.2) = true := by rw [beq_iff_eq]; omega
            have f2b : 0 ≤ f2 ∧ f2 ≤ 100000000 := by omega
            obtain ⟨px1, px2⟩ := px
            obtain ⟨f2c, f2d⟩ := f2b
            have O1 := Lib.hid hf1
            have O2 := Lib.hid hf2
            have HV := Lib.hid hV
            have hcl := hrr.1
            clear hf1 hf2 hV hme ml0 m0 bl b0 e1 e2 hx
            have hbb : Below wr.heap.size wr wr := Below.refl _ _
            go_wp2_with fail
            refine (implWithout_any _ _ _ _ 0 _ hrr (by omega)).mono ?_
            unfold WithPost
            rw [HV.out]
            rintro e w12 ⟨C9, q9, c9, rfl, hl9, hb⟩
            have hr9 := hl9.recs
            have hl9n : q9 + 1 = k := by have := hr9.1; simp only [List.length_drop] at this; omega
            have hB12 := belowT hb hB11
            replace hrr := hrr.keep hb
            replace hcx0 := keepc hb hcx0
            replace hcx1 := keepc hb hcx1
            clear hb hB11 hl9 HV
            have tq : ((q9 : Int) == (k : Int) - 1) = true := by rw [beq_iff_eq]; omega
            have td : decide ((q9 : Int) = (k : Int) - 1) = true := decide_eq_true (by omega)
            have tfd : decide (f1 = f2 - x.1 * x.2) = true := decide_eq_true (by simpa using tf)
            have w1 : IntKind.i64.wrap ((k : Int) - 1) = (k : Int) - 1 := IntWalk.i64_in _ (by omega)
            have w2 : IntKind.i64.wrap (x.1 * x.2) = x.1 * x.2 := IntWalk.i64_in _ (by omega)
            have w3 : IntKind.i64.wrap (f2 - x.1 * x.2) = f2 - x.1 * x.2 := IntWalk.i64_in _ (by omega)
            rw [Nat.zero_mul, Nat.add_zero] at hcx0 hcx1
            have hrb := Box.mk hrr
            have hrc := Box.mk hr9
            clear hrr hr9
            go_wp2_with fail
            go_region_held3 (fun w' => Box (Recs w' (some ⟨b, off, none⟩) k cs) ∧ Box (Recs w' C9 q9 (cs.drop 1)) ∧ w'.cell? ⟨b, off, none⟩ = some (.int .i64 x.1) ∧ w'.cell? ⟨b, off + 1, none⟩ = some (.int .i64 x.2) ∧ Below w.heap.size w w')
              (((try go_split_ands); (try dsimp only); (repeat' apply And.intro)) <;> first | assumption | exact keepd (by assumption) | exact Below.drew (by assumption) | exact keepc hb2 (by assumption) | exact belowT hb2 (by assumption) | exact Box.mk (Recs.keep (Box.out (by assumption)) hb2) | exact Box.mk (Recs.keep (Box.out (by assumption)) (drew_below1 _)))
              (first | (go_at_call 24; (with_reducible refine (a2About_any _ _ _ (cs.drop 1) 0 f1 _ (Box.out (by go_split_ands; assumption)) (by omega) hod (by omega) (by omega) O1.out).mono ?_); rintro e w' ⟨rfl, hb2⟩) | (go_at_call 24; (with_reducible refine (a2About_any _ _ _ cs 0 f2 _ (Box.out (by go_split_ands; assumption)) (by omega) hog (by omega) (by omega) O2.out).mono ?_); rintro e w' ⟨rfl, hb2⟩))
            go_wp2
            go_ret
            exact ⟨rfl, by go_split_ands; assumption⟩
      · have hsq : ¬ 3 * W ≤ (sn - 1) * st := by omega
        go_wp2_with fail
        clear p1a p1b m3 m4 hW0 hW1 hs1 sn1 sn0
        as_aux_lemma =>
        go_loopw [21] (fun i wr => ∃ j : Nat, j ≤ q8 ∧ i = .int .i64 j ∧ Below w10.heap.size w10 wr) (fun i _ => q8 - (intOf i).toNat)
        case atStart => exact ⟨0, Nat.zero_le _, rfl, Below.refl _ _⟩
        case round =>
          obtain ⟨j, hj, rfl, hBr⟩ := hrel
          have hrr := hr.keep hBr
          have hhr2 := hh.keep hBr
          have hB11 := belowT hBr hB10
          by_cases hjq : j < q8
          · obtain ⟨b, off, y, rfl, hblt, hy, hcy⟩ := hhr2.at_ hjq
            obtain ⟨b', off', y2, hAe, hblt', hy2, hcy2⟩ := hhr2.at_ hkk
            injection hAe with hAe
            injection hAe with hA1 hA2
            subst hA1 hA2
            obtain ⟨i1, i2⟩ := hhr y (List.mem_of_getElem? hy)
            obtain ⟨j1, j2⟩ := hhr y2 (List.mem_of_getElem? hy2)
            obtain ⟨f1, hf1⟩ : ∃ v, absI (momentI y cs) = v := ⟨_, rfl⟩
            obtain ⟨f2, hf2⟩ : ∃ v, absI (momentI y2 cs) = v := ⟨_, rfl⟩
            have hle := HBest.out j hjq
            rw [getD_of hy, getD_of hy2, hf1, hf2] at hle
            have O1 := Lib.hid hf1
            have O2 := Lib.hid hf2
            clear hf1 hf2 hy hy2
            have j0 : (0 : Int) ≤ (j : Int) := by omega
            have j9 : (j : Int) < (q8 : Int) := by omega
            have t1 : decide (f1 < f2) = false := decide_eq_false (by omega)
            have hrb := Box.mk hrr
            clear hrr hhr2
            go_wp2_with fail
            go_region_held3 (fun w' => Box (Recs w' C7 k cs) ∧ w'.cell? ⟨b, off + j, none⟩ = some (.int .i64 y) ∧ w'.cell? ⟨b, off + kk, none⟩ = some (.int .i64 y2) ∧ Below w10.heap.size w10 w')
              (((try go_split_ands); (try dsimp only); (repeat' apply And.intro)) <;> first | assumption | exact keepd (by assumption) | exact Below.drew (by assumption) | exact keepc hb2 (by assumption) | exact belowT hb2 (by assumption) | exact Box.mk (Recs.keep (Box.out (by assumption)) hb2) | exact Box.mk (Recs.keep (Box.out (by assumption)) (drew_below1 _)))
              (first | (go_at_call 24; (with_reducible refine (a2About_any _ _ _ _ y f1 _ (Box.out (by go_split_ands; assumption)) (by omega) hog (by omega) (by omega) O1.out).mono ?_); rintro e w' ⟨rfl, hb2⟩) | (go_at_call 24; (with_reducible refine (a2About_any _ _ _ _ y2 f2 _ (Box.out (by go_split_ands; assumption)) (by omega) hog (by omega) (by omega) O2.out).mono ?_); rintro e w' ⟨rfl, hb2⟩))
            go_wp2
            go_roundw
            case rel => exact ⟨j + 1, by omega, by go_num, by go_split_ands; assumption⟩
            case measure => simp [intOf]; omega
          · obtain rfl : j = q8 := by omega
            clear HBest hBr hkk kk0 kk1 hhr2 hh hhr
            obtain ⟨b, off, x, rfl, hblt, hx, hcx0, hcx1⟩ := hrr.at_ hk0
            obtain ⟨x1', x2'⟩ := okG_bd hog hx
            obtain ⟨hV, hod, hme, ml0, m0⟩ := without_facts hog hx
            have bl := momentAll_bd hod (a := 0) (by omega)
            have b0 := momentAll_bd hog (a := 0) (by omega)
            have px := mulb (x := x.1) (y := x.2) (A := 10000) (B := 1000) (by omega) (by omega) (by omega) (by omega)
            obtain ⟨f1, hf1⟩ : ∃ v, absI (momentI 0 (cs.drop 1)) = v := ⟨_, rfl⟩
            obtain ⟨f2, hf2⟩ : ∃ v, absI (momentI 0 cs) = v := ⟨_, rfl⟩
            have e1 : f1 = momentI 0 (cs.drop 1) := by rw [← hf1]; unfold absI; rw [if_neg (by omega)]
            have e2 : f2 = momentI 0 cs := by rw [← hf2]; unfold absI; rw [if_neg (by omega)]
            have tf : (f1 == f2 - x.1 * x.2) = true := by rw [beq_iff_eq]; omega
            have f2b : 0 ≤ f2 ∧ f2 ≤ 100000000 := by omega
            obtain ⟨px1, px2⟩ := px
            obtain ⟨f2c, f2d⟩ := f2b
            have O1 := Lib.hid hf1
            have O2 := Lib.hid hf2
            have HV := Lib.hid hV
            have hcl := hrr.1
            clear hf1 hf2 hV hme ml0 m0 bl b0 e1 e2 hx
            have hbb : Below wr.heap.size wr wr := Below.refl _ _
            go_wp2_with fail
            refine (implWithout_any _ _ _ _ 0 _ hrr (by omega)).mono ?_
            unfold WithPost
            rw [HV.out]
            rintro e w12 ⟨C9, q9, c9, rfl, hl9, hb⟩
            have hr9 := hl9.recs
            have hl9n : q9 + 1 = k := by have := hr9.1; simp only [List.length_drop] at this; omega
            have hB12 := belowT hb hB11
            replace hrr := hrr.keep hb
            replace hcx0 := keepc hb hcx0
            replace hcx1 := keepc hb hcx1
            clear hb hB11 hl9 HV
            have tq : ((q9 : Int) == (k : Int) - 1) = true := by rw [beq_iff_eq]; omega
            have td : decide ((q9 : Int) = (k : Int) - 1) = true := decide_eq_true (by omega)
            have tfd : decide (f1 = f2 - x.1 * x.2) = true := decide_eq_true (by simpa using tf)
            have w1 : IntKind.i64.wrap ((k : Int) - 1) = (k : Int) - 1 := IntWalk.i64_in _ (by omega)
            have w2 : IntKind.i64.wrap (x.1 * x.2) = x.1 * x.2 := IntWalk.i64_in _ (by omega)
            have w3 : IntKind.i64.wrap (f2 - x.1 * x.2) = f2 - x.1 * x.2 := IntWalk.i64_in _ (by omega)
            rw [Nat.zero_mul, Nat.add_zero] at hcx0 hcx1
            have hrb := Box.mk hrr
            have hrc := Box.mk hr9
            clear hrr hr9
            go_wp2_with fail
            go_region_held3 (fun w' => Box (Recs w' (some ⟨b, off, none⟩) k cs) ∧ Box (Recs w' C9 q9 (cs.drop 1)) ∧ w'.cell? ⟨b, off, none⟩ = some (.int .i64 x.1) ∧ w'.cell? ⟨b, off + 1, none⟩ = some (.int .i64 x.2) ∧ Below w.heap.size w w')
              (((try go_split_ands); (try dsimp only); (repeat' apply And.intro)) <;> first | assumption | exact keepd (by assumption) | exact Below.drew (by assumption) | exact keepc hb2 (by assumption) | exact belowT hb2 (by assumption) | exact Box.mk (Recs.keep (Box.out (by assumption)) hb2) | exact Box.mk (Recs.keep (Box.out (by assumption)) (drew_below1 _)))
              (first | (go_at_call 24; (with_reducible refine (a2About_any _ _ _ (cs.drop 1) 0 f1 _ (Box.out (by go_split_ands; assumption)) (by omega) hod (by omega) (by omega) O1.out).mono ?_); rintro e w' ⟨rfl, hb2⟩) | (go_at_call 24; (with_reducible refine (a2About_any _ _ _ cs 0 f2 _ (Box.out (by go_split_ands; assumption)) (by omega) hog (by omega) (by omega) O2.out).mono ?_); rintro e w' ⟨rfl, hb2⟩))
            go_wp2
            go_ret
            exact ⟨rfl, by go_split_ands; assumption⟩
end Go.Proofs.Ytkkipkmjhakknaa
