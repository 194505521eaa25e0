/- FnBrokenParts: the law. -/
import Derived.Test.YtniifpfhfpcmcaaBpF
namespace Go.Proofs.Ytniifpfhfpcmcaa
open Go.RowKit
set_option linter.unusedVariables false
set_option linter.unusedSimpArgs false

theorem a2Has_q (A : Option Addr) (n c : Nat) (gs : List Int) (z : Int) (v : Bool) (w : World) (h : Ints w A n gs) (hn : n ≤ 1048576) (hv : hasI gs z = v) : Calls Try.prog 23 #[.slice A n c, .int .i64 z] w fun e w' => e = .returned (.bool v) ∧ w' = w :=
  (a2Has_eq _ _ _ _ _ _ _ h hn hv).mono fun _ _ ⟨a, b⟩ => ⟨a, b.symm⟩
def LZ (mo at' lf lm two : Int) : Prop := (mo = 0 ∧ two = 3) ∨ (0 < mo ∧ two = 0 ∧ lf = at' ∧ lm = mo)
theorem longZ_is {s : Nat} {zs : List Int} (ho : okBrok s zs = true) : LZ (longW (partsL s zs)).2 (longW (partsL s zs)).1 (longZ s zs).1 (longZ s zs).2.1 (longZ s zs).2.2 := by
  obtain ⟨h1, h2, h3⟩ := longW_L (partsL s zs)
  have e : longZ s zs = longV s zs := by unfold longZ; rw [if_pos ho, Int.toNat_natCast]
  rw [e]
  unfold longV
  by_cases h0 : (longL (partsL s zs)).2 = 0
  · rw [if_pos h0]; exact .inl ⟨by omega, rfl⟩
  · rw [if_neg h0]; exact .inr ⟨by omega, rfl, (h3 (by omega)).symm, h1.symm⟩
theorem mostV_yes {s g q : Nat} {zs : List Int} (ho : okBrok s zs = true) (hg : g ≤ 60) (hl : zs.length = q) (h : (newL s zs).length ≤ g) : mostV s zs g = (((min s (2 * g) : Nat) : Int) - (q : Int), 0) := by
  rw [newL_len] at h
  unfold mostV
  rw [ho, (inB_iff (g : Int) 0 60).2 (by omega), Int.toNat_natCast, Int.toNat_natCast, hl]; simp only [if_true, if_pos h]
theorem mostV_no {s g : Nat} {zs : List Int} (ho : okBrok s zs = true) (hg : g ≤ 60) (h : ¬ (newL s zs).length ≤ g) : mostV s zs g = (0, 5) := by
  rw [newL_len] at h
  unfold mostV
  rw [ho, (inB_iff (g : Int) 0 60).2 (by omega), Int.toNat_natCast, Int.toNat_natCast]; simp only [if_true, if_neg h]
theorem break_yes2 {s : Nat} {zs : List Int} {x : Int} (ho : okBrok s zs = true) (hx : inB x 0 ((s : Int) - 1) = true) (hh : hasI zs x = true) : breakV s zs x = ([], 4) := by simp [breakV, ho, hx, hh]
theorem break_no {s : Nat} {zs : List Int} {x : Int} (ho : okBrok s zs = true) (hx : inB x 0 ((s : Int) - 1) = true) (hh : hasI zs x = true) : breakV s zs x = ([], 4) := by simp [breakV, ho, hx, hh]
theorem break_yes {s : Nat} {zs : List Int} {x : Int} (ho : okBrok s zs = true) (hx : inB x 0 ((s : Int) - 1) = true) (hh : hasI zs x = false) : breakV s zs x = (putS zs x, 0) := by simp [breakV, ho, hx, hh]

set_option maxRecDepth 100000 in
set_option maxHeartbeats 8000000 in
theorem law_FnBrokenParts (w : World) (A : Option Addr) (n c : Nat) (zs : List Int) (h0 : IsInts .u8 w A n zs) (B : Option Addr) (m d : Nat) (ys : List Int) (g0 : IsInts .u8 w B m ys) : Calls Try.prog 5 #[.slice A n c, .slice B m d] w fun e w' => e = .returned (.bool true) ∧ Below w.heap.size w w' := by
  have hY := bytes_of h0
  have hZ := bytes_of g0
  cases hbig : decide (3000 < n ∨ 3000 < m)
  case true =>
    go_enter Try.func5, Try.ntmps5
    go_wp2_with fail
    refine (a2Long_any _ _ _ _ _ _ true _ hY.1 hZ.1 hbig).mono ?_
    rintro e w' ⟨rfl, rfl⟩
    go_wp2_with fail
    go_ret
    exact ⟨rfl, Below.refl _ _⟩
  go_enter Try.func5, Try.ntmps5
  go_wp2_with fail
  refine (a2Long_any _ _ _ _ _ _ false _ hY.1 hZ.1 hbig).mono ?_
  rintro e w' ⟨rfl, rfl⟩
  clear hbig
  go_wp2_with fail
  refine (a2At_any _ _ _ 0 _ _ _ hZ (by omega) (by omega)).mono ?_
  rintro e w' ⟨v, rfl, v0, v1, rfl⟩
  go_wp2_with fail
  obtain ⟨s, hs⟩ : ∃ s : Nat, 3 + v = (s : Int) := ⟨(3 + v).toNat, by omega⟩
  have s0 : 3 ≤ s := by omega
  have s1 : s ≤ 16 := by omega
  simp only [hs]
  refine (a2Some_any _ _ _ s _ hY (by omega)).mono ?_
  rintro e w1 ⟨C, q, cq, zs, rfl, hz, hr, hB⟩
  clear hs v0 v1 hY
  have HZ := Lib.hid hZ
  clear hZ
  have HR := Box0.mk hr
  clear hr
  have HL := Lib.hid hz.1
  have hq : q ≤ 16 := by have := HR.out.len; have := HL.out; omega
  have HO := Lib.hid (ris_okB HR.out s0 (by omega))
  have HN := Lib.hid (show newC s zs = 0 by simp [newC, HO.out])
  have HN2 := Lib.hid (show newV s zs = newL s zs by simp [newV, HO.out])
  have HP1 := Lib.hid (show partsC s zs = 0 by simp [partsC, HO.out])
  have HP2 := Lib.hid (show partsV s zs = partsL s zs by simp [partsV, HO.out])
  have PF := Lib.hid (fun (k : Nat) (p : Int × Int) (hp : (partsL s zs)[k]? = some p) => part_facts HR.out (by omega) hp)
  have LP := Lib.hid (fun (k : Nat) (p : Int × Int) (hp : (partsL s zs)[k]? = some p) => lastP_lt HR.out (by omega) hp)
  have SA := Lib.hid (sumP_all HR.out (by omega))
  have SB := Lib.hid (sumP_bd (ps := partsL s zs) (fun p hp => by obtain ⟨k, hk, e⟩ := List.mem_iff_getElem.1 hp; obtain ⟨_, a, b⟩ := partsL_at HR.out (by omega) (show (partsL s zs)[k]? = some p by rw [List.getElem?_eq_getElem hk, e]); omega))
  have LW := Lib.hid (longZ_is HO.out)
  have hpl := partsL_len HR.out
  go_wp2_with fail
  refine (implParts_any _ _ _ _ _ _ hz (by omega)).mono ?_
  rintro e w2 ⟨D, np, dp, rfl, hP, hb⟩
  rw [HP2.out] at hP
  rw [HP1.out]
  have hnp : np ≤ 16 := by have := hP.len; omega
  have HPL := Lib.hid hP.len
  replace hz := hz.keep hb
  replace hB := belowT hb hB
  clear hb hpl
  obtain ⟨lf, hlf⟩ : ∃ v, (longZ s zs).1 = v := ⟨_, rfl⟩
  obtain ⟨lm, hlm⟩ : ∃ v, (longZ s zs).2.1 = v := ⟨_, rfl⟩
  obtain ⟨two, htwo⟩ : ∃ v, (longZ s zs).2.2 = v := ⟨_, rfl⟩
  rw [hlf, hlm, htwo] at LW
  have H1 := Lib.hid hlf
  have H2 := Lib.hid hlm
  have H3 := Lib.hid htwo
  clear hlf hlm htwo
  go_wp2_with fail
  refine (implLongest_any _ _ _ _ _ _ hz (by omega)).mono ?_
  rw [H1.out, H2.out, H3.out]
  rintro e w3 ⟨rfl, hb⟩
  replace hz := hz.keep hb
  replace hP := hP.keep hb
  replace hB := belowT hb hB
  clear hb H1 H2 H3 HP1 HP2
  generalize partsL s zs = ps at *
  have HPs := Lib.hid hP
  clear hP
  go_wp2_with fail
  go_loopw [12, 13, 14, 15, 16] (fun a b cc dd i wr => ∃ k : Nat, k ≤ np ∧ i = .int .i64 k ∧ a = .int .i64 (sumP (ps.take k)) ∧ b = .int .i64 (longW (ps.take k)).2 ∧ cc = .int .i64 (longW (ps.take k)).1 ∧ dd = .int .i64 (lastP ps k) ∧ Below w3.heap.size w3 wr) (fun _ _ _ _ i _ => np - (intOf i).toNat)
  case atStart => exact ⟨0, Nat.zero_le _, rfl, rfl, rfl, rfl, rfl, Below.refl _ _⟩
  case round =>
    obtain ⟨k, hk, rfl, rfl, rfl, rfl, rfl, hb⟩ := hrel
    by_cases hlt : k < np
    · as_aux_lemma =>
      obtain ⟨b, g, p, rfl, hp, kc0, kc1, kc2, _⟩ := (HPs.out.keep hb).at_ hlt
      obtain ⟨v, hv, v1, vs, f0, f1, hall, hend⟩ := PF.out k p hp
      have hlast := LP.out k p hp
      have HSS := Lib.hid (sumP_succ hp)
      have HWW := Lib.hid (longW_succ hp)
      have HLL := Lib.hid (lastP_succ hp)
      have hsb := SB.out k
      have hmo := longW_bd (ps := ps.take k)
      have Hall := Lib.hid hall
      rw [hv] at kc2
      have Hv := Lib.hid hv
      have Hp := Lib.hid (show p = (p.1, (v : Int)) by rw [← hv])
      have k1 : (k : Int) < (np : Int) := by omega
      have k0 : (0 : Int) ≤ (k : Int) := by omega
      have hz2 := hz.keep hb
      generalize wr = w5 at *
      have hHW := Lib.hid (show longW (ps.take k) = ((longW (ps.take k)).1, (longW (ps.take k)).2) from rfl)
      clear hp hall hv
      obtain ⟨f, hf⟩ : ∃ f, p.1 = f := ⟨_, rfl⟩
      rw [hf] at kc1 f0 f1 hlast hend Hall Hp HLL
      clear hf
      obtain ⟨la, hla⟩ : ∃ v, lastP ps k = v := ⟨_, rfl⟩
      obtain ⟨sm, hsm⟩ : ∃ v, sumP (ps.take k) = v := ⟨_, rfl⟩
      obtain ⟨mo, hmo2⟩ : ∃ v, (longW (ps.take k)).2 = v := ⟨_, rfl⟩
      obtain ⟨ta, hta⟩ : ∃ v, (longW (ps.take k)).1 = v := ⟨_, rfl⟩
      rw [hla] at hlast ⊢
      rw [hsm] at HSS hsb ⊢
      rw [hmo2] at hHW hmo ⊢
      rw [hta] at hHW ⊢
      clear hla hsm hmo2 hta
      have q1 : ¬ f ≤ la := by omega
      have q2 : ¬ (s : Int) ≤ f := by omega
      have q3 : ¬ (v : Int) < 1 := by omega
      have q4 : ¬ (s : Int) < (v : Int) := by omega
      have wv : IntKind.i64.wrap (sm + (v : Int)) = sm + (v : Int) := IntWalk.i64_in _ (by omega)
      go_wp2
      go_loopw [17] (fun i wr => ∃ j : Nat, j ≤ v ∧ i = .int .i64 j ∧ wr = w5) (fun i _ => v - (intOf i).toNat)
      case atStart => exact ⟨0, Nat.zero_le _, rfl, rfl⟩
      case round =>
        obtain ⟨j, hj, rfl, rfl⟩ := hrel
        by_cases hjv : j < v
        · have hh := Hall.out j hjv
          have j1 : (j : Int) < (v : Int) := by omega
          go_wp2_with (go_at_call 23; refine (a2Has_eq _ _ _ _ _ _ _ (by assumption) (by omega) (by assumption)).mono ?_; rintro e w' ⟨rfl, rfl⟩)
          go_roundw
          case rel => exact ⟨j + 1, by omega, by go_num, by first | rfl | trivial⟩
          case measure => simp [intOf]; omega
        · obtain rfl : j = v := by omega
          clear hjv
          by_cases hvs : j < s
          · obtain ⟨n1, n2⟩ := hend hvs
            have j2 : (j : Int) < (s : Int) := by omega
            have d2 : decide (j < s) = true := decide_eq_true hvs
            have wx1 : IntKind.i64.wrap (f + (j : Int)) = f + (j : Int) := IntWalk.i64_in _ (by omega)
            have wx2 : IntKind.i64.wrap (f + (s : Int)) = f + (s : Int) := IntWalk.i64_in _ (by omega)
            have wx3 : IntKind.i64.wrap (f + (s : Int) - 1) = f + (s : Int) - 1 := IntWalk.i64_in _ (by omega)
            have tm1 : (f + (j : Int)).tmod (s : Int) = (f + (j : Int)) % (s : Int) := Int.tmod_eq_emod_of_nonneg (by omega)
            have tm2 : (f + (s : Int) - 1).tmod (s : Int) = (f + (s : Int) - 1) % (s : Int) := Int.tmod_eq_emod_of_nonneg (by omega)
            have sn0 : ((s : Int) == 0) = false := by rw [beq_eq_false_iff_ne]; omega
            have sn1 : ¬ (s : Int) = 0 := by omega
            have sn2 : ¬ s = 0 := by omega
            have hzb := Box0.mk hz2
            clear hend hz2
            go_wp2
            go_region_held3 (fun w' => w'.cell? ⟨b, k, none⟩ = some (.slice (some ⟨g, 0, none⟩) 2 2) ∧ w'.cell? ⟨g, 0, none⟩ = some (.int .i64 f) ∧ w'.cell? ⟨g, 1, none⟩ = some (.int .i64 (j : Int)) ∧ Box0 (Ints w' C q zs) ∧ Below w3.heap.size w3 w') (((try go_split_ands); (try dsimp only); (repeat' apply And.intro)) <;> first | assumption | exact keepd (by assumption) | exact Below.drew (by assumption) | exact Box0.mk (Box0.out (by assumption))) (first | (go_at_call 23; (with_reducible refine (a2Has_q _ _ _ _ _ _ _ (Box0.out (by go_split_ands; assumption)) (by omega) n1).mono ?_); rintro e w' ⟨rfl, rfl⟩) | (go_at_call 23; (with_reducible refine (a2Has_q _ _ _ _ _ _ _ (Box0.out (by go_split_ands; assumption)) (by omega) n2).mono ?_); rintro e w' ⟨rfl, rfl⟩))
            as_aux_lemma =>
            by_cases hmv : mo < (j : Int)
            · go_wp2
              go_roundw
              case rel =>
                refine ⟨k + 1, by omega, by go_num, by rw [HSS.out, Hv.out], ?_, ?_, by rw [HLL.out], by first | (go_split_ands; first | assumption | (apply Below.drew; assumption)) | exact below_drewN (by assumption) _⟩
                · rw [HWW.out, hHW.out, Hp.out]; unfold lg; rw [if_pos hmv]
                · rw [HWW.out, hHW.out, Hp.out]; unfold lg; rw [if_pos hmv]
              case measure => simp [intOf]; omega
            · go_wp2
              go_roundw
              case rel =>
                refine ⟨k + 1, by omega, by go_num, by rw [HSS.out, Hv.out], ?_, ?_, by rw [HLL.out], by first | (go_split_ands; first | assumption | (apply Below.drew; assumption)) | exact below_drewN (by assumption) _⟩
                · rw [HWW.out, hHW.out, Hp.out]; unfold lg; rw [if_neg hmv]
                · rw [HWW.out, hHW.out, Hp.out]; unfold lg; rw [if_neg hmv]
              case measure => simp [intOf]; omega
          · obtain rfl : j = s := by omega
            clear hend hz2
            go_wp2
            go_quiet (fail)
            as_aux_lemma =>
            by_cases hmv : mo < (j : Int)
            · go_wp2
              go_roundw
              case rel =>
                refine ⟨k + 1, by omega, by go_num, by rw [HSS.out, Hv.out], ?_, ?_, by rw [HLL.out], by first | (go_split_ands; first | assumption | (apply Below.drew; assumption)) | exact below_drewN (by assumption) _⟩
                · rw [HWW.out, hHW.out, Hp.out]; unfold lg; rw [if_pos hmv]
                · rw [HWW.out, hHW.out, Hp.out]; unfold lg; rw [if_pos hmv]
              case measure => simp [intOf]; omega
            · go_wp2
              go_roundw
              case rel =>
                refine ⟨k + 1, by omega, by go_num, by rw [HSS.out, Hv.out], ?_, ?_, by rw [HLL.out], by first | (go_split_ands; first | assumption | (apply Below.drew; assumption)) | exact below_drewN (by assumption) _⟩
                · rw [HWW.out, hHW.out, Hp.out]; unfold lg; rw [if_neg hmv]
                · rw [HWW.out, hHW.out, Hp.out]; unfold lg; rw [if_neg hmv]
              case measure => simp [intOf]; omega
    · obtain rfl : k = np := by omega
      rw [take_all HPL.out]
      replace hz := hz.keep hb
      replace hB := belowT hb hB
      clear hb HPs PF LP SB
      have sa := SA.out
      rw [HL.out] at sa
      rw [sa]
      obtain ⟨la, hla⟩ : ∃ v, lastP ps k = v := ⟨_, rfl⟩
      obtain ⟨mo, hmo2⟩ : ∃ v, (longW ps).2 = v := ⟨_, rfl⟩
      obtain ⟨ta, hta⟩ : ∃ v, (longW ps).1 = v := ⟨_, rfl⟩
      rw [hmo2, hta] at LW
      rw [hla, hmo2, hta]
      clear hla hmo2 hta sa SA
      generalize wr = w4 at *
      have lw := LW.out
      unfold LZ at lw
      clear LW
      have p0 : ((q : Int) != (q : Int)) = false := by simp
      rcases lw with ⟨rfl, rfl⟩ | ⟨hmp, rfl, rfl, rfl⟩
      · go_wp2_with fail
        · as_aux_lemma =>
          refine (a2At_any _ _ _ 1 _ w.heap.size _ (HZ.out.keep hB) (by omega) (by omega)).mono ?_
          rintro e w' ⟨xg, rfl, x0, x1, rfl⟩
          obtain ⟨g, rfl⟩ : ∃ g : Nat, xg = (g : Int) := ⟨xg.toNat, by omega⟩
          have hg : g ≤ 8 := by omega
          clear x0 x1
          go_wp2_with fail
          refine (specFewest_any _ _ _ _ _ _ hz (by omega)).mono ?_
          rintro e w5 ⟨D1, r, dr, rfl, hf, hb⟩
          have hrl : (newL s zs).length = r := by have := OwnI.len hf; rw [HN2.out] at this; exact this
          have hr60 : r ≤ 60 := by rw [← OwnI.len hf]; exact newV_len _ _
          replace hz := hz.keep hb
          replace hB := belowT hb hB
          clear hb hf
          have HRL := Lib.hid hrl
          clear hrl
          rw [HN.out]
          by_cases hgr : r ≤ g
          · as_aux_lemma =>
            have hgr2 : (newL s zs).length ≤ g := by rw [HRL.out]; exact hgr
            have HM := Lib.hid (mostV_yes HO.out (by omega) HL.out hgr2)
            have e0 := extra_lo (by omega) HR.out hgr2
            have e1 := Nat.min_le_left s (2 * g)
            have e2 := Nat.min_le_right s (2 * g)
            obtain ⟨mm, hmm⟩ : ∃ v : Nat, min s (2 * g) = v := ⟨_, rfl⟩
            rw [hmm] at HM e0 e1 e2
            have HMM := Lib.hid hmm
            rw [HL.out] at e0
            obtain ⟨ex, hex⟩ : ∃ v : Int, (mm : Int) - (q : Int) = v := ⟨_, rfl⟩
            rw [hex] at HM
            have i1 : ¬ ex < 0 := by omega
            have i2 : ¬ (s : Int) - (q : Int) < ex := by omega
            have i3 : ¬ 2 * (g : Int) - (q : Int) < ex := by omega
            have HEX := Lib.hid (show (q : Int) + 1 ≤ mm → 1 ≤ ex by omega)
            clear hmm hex e0 e1 e2 hgr2
            have r1 : decide (r ≤ g) = true := decide_eq_true hgr
            have r2 : (r : Int) ≤ (g : Int) := by omega
            go_wp2_with fail
            refine (implMost_any _ _ _ _ _ _ _ hz (by omega)).mono ?_
            rintro e w6 ⟨he, hb⟩
            rw [HM.out] at he
            subst he
            replace hz := hz.keep hb
            replace hB := belowT hb hB
            clear hb HM
            go_wp2_with fail
            refine (a2At_any _ _ _ 2 _ w.heap.size _ (HZ.out.keep hB) (by omega) (by omega)).mono ?_
            rintro e w' ⟨x, rfl, x0, x1, rfl⟩
            have hin : inB x 0 ((s : Int) - 1) = true := (inB_iff _ _ _).2 (by omega)
            have HIN := Lib.hid hin
            clear hin
            cases hh : hasI zs x
            rotate_left
            · have HBK := Lib.hid (break_yes2 HO.out HIN.out hh)
              go_wp2_with fail
              refine (implBreak_any _ _ _ _ _ _ _ hz (by omega)).mono ?_
              rintro e w7 ⟨D2, q2, d2, rfl, hx, hb⟩
              rw [HBK.out]
              clear hx
              replace hz := hz.keep hb
              replace hB := belowT hb hB
              clear hb HBK
              go_wp2_with (go_at_call 23; refine (a2Has_eq _ _ _ _ _ _ _ (by assumption) (by omega) (by assumption)).mono ?_; rintro e w' ⟨rfl, rfl⟩)
              go_ret
              exact ⟨rfl, hB⟩
            have HBK := Lib.hid (break_yes HO.out HIN.out hh)
            obtain ⟨p1, p2, p3⟩ := put_ris HR.out x0 (by omega) hh
            have HR2 := Lib.hid p1
            have HL3 := Lib.hid p2
            have HX3 := Lib.hid p3
            clear p1 p2 p3
            go_wp2_with fail
            refine (implBreak_any _ _ _ _ _ _ _ hz (by omega)).mono ?_
            rintro e w7 ⟨D2, q2, d2, rfl, hx, hb⟩
            rw [HBK.out] at hx
            rw [HBK.out]
            replace hz := hz.keep hb
            replace hB := belowT hb hB
            clear hb HBK
            obtain rfl : q2 = q + 1 := by have := OwnI.len hx; rw [HL3.out, HL.out] at this; exact this.symm
            go_wp2_with (go_at_call 23; refine (a2Has_eq _ _ _ _ _ _ _ (by assumption) (by omega) (by assumption)).mono ?_; rintro e w' ⟨rfl, rfl⟩)
            have hx2 := OwnI.ints hx
            have hris := HR2.out
            have hhas := HX3.out
            (go_at_call 22; refine (a2Rises_true _ _ _ _ _ _ (by assumption) (by omega) (by assumption) (by omega)).mono ?_; rintro e w' ⟨rfl, hb⟩)
            replace hx := OwnI.keep hx hb
            replace hx2 := hx2.keep hb
            replace hz := hz.keep hb
            replace hB := belowT hb hB
            clear hb
            go_wp2_with (go_at_call 23; refine (a2Has_eq _ _ _ _ _ _ _ (by assumption) (by omega) (by assumption)).mono ?_; rintro e w' ⟨rfl, rfl⟩)
            have HO2 := Lib.hid (ris_okB HR2.out s0 (by omega))
            refine (specFewest_any _ _ _ _ _ _ hx2 (by omega)).mono ?_
            rintro e w8 ⟨D3, r3, d3, rfl, hf, hb⟩
            have hn2 : newV s (putS zs x) = newL s (putS zs x) := by simp [newV, HO2.out]
            have hn3 : newC s (putS zs x) = 0 := by simp [newC, HO2.out]
            have hrl2 : (newL s (putS zs x)).length = r3 := by have := OwnI.len hf; rw [hn2] at this; exact this
            rw [hn3]
            have HRL2 := Lib.hid hrl2
            have hr360 : r3 ≤ 60 := by rw [← OwnI.len hf]; exact newV_len _ _
            replace hB := belowT hb hB
            clear hb hf hn2 hn3 hrl2 hris hhas
            by_cases hgn : g < r3
            · have gn1 : (g : Int) < (r3 : Int) := by omega
              have gn2 : decide (g < r3) = true := decide_eq_true hgn
              go_wp2_with fail
              go_ret
              exact ⟨rfl, hB⟩
            · have gn1 : ¬ (g : Int) < (r3 : Int) := by omega
              have gn2 : decide (g < r3) = false := decide_eq_false hgn
              have ex1 : (1 : Int) ≤ ex := HEX.out (by rw [← HMM.out, ← HL.out]; exact extra_ge (by omega) HR2.out HL3.out (by rw [HRL2.out]; omega))
              go_wp2_with fail
              go_ret
              exact ⟨rfl, hB⟩
          · as_aux_lemma =>
            have HM := Lib.hid (mostV_no HO.out (show g ≤ 60 by omega) (by rw [HRL.out]; exact hgr))
            have r1 : decide (r ≤ g) = false := decide_eq_false hgr
            have r2 : ¬ (r : Int) ≤ (g : Int) := by omega
            go_wp2_with fail
            refine (implMost_any _ _ _ _ _ _ _ hz (by omega)).mono ?_
            rintro e w6 ⟨he, hb⟩
            rw [HM.out] at he
            subst he
            replace hz := hz.keep hb
            replace hB := belowT hb hB
            clear hb HM
            go_wp2_with fail
            refine (a2At_any _ _ _ 2 _ w.heap.size _ (HZ.out.keep hB) (by omega) (by omega)).mono ?_
            rintro e w' ⟨x, rfl, x0, x1, rfl⟩
            have hin : inB x 0 ((s : Int) - 1) = true := (inB_iff _ _ _).2 (by omega)
            have HIN := Lib.hid hin
            clear hin
            cases hh : hasI zs x
            rotate_left
            · have HBK := Lib.hid (break_yes2 HO.out HIN.out hh)
              go_wp2_with fail
              refine (implBreak_any _ _ _ _ _ _ _ hz (by omega)).mono ?_
              rintro e w7 ⟨D2, q2, d2, rfl, hx, hb⟩
              rw [HBK.out]
              clear hx
              replace hz := hz.keep hb
              replace hB := belowT hb hB
              clear hb HBK
              go_wp2_with (go_at_call 23; refine (a2Has_eq _ _ _ _ _ _ _ (by assumption) (by omega) (by assumption)).mono ?_; rintro e w' ⟨rfl, rfl⟩)
              go_ret
              exact ⟨rfl, hB⟩
            have HBK := Lib.hid (break_yes HO.out HIN.out hh)
            obtain ⟨p1, p2, p3⟩ := put_ris HR.out x0 (by omega) hh
            have HR2 := Lib.hid p1
            have HL3 := Lib.hid p2
            have HX3 := Lib.hid p3
            clear p1 p2 p3
            go_wp2_with fail
            refine (implBreak_any _ _ _ _ _ _ _ hz (by omega)).mono ?_
            rintro e w7 ⟨D2, q2, d2, rfl, hx, hb⟩
            rw [HBK.out] at hx
            rw [HBK.out]
            replace hz := hz.keep hb
            replace hB := belowT hb hB
            clear hb HBK
            obtain rfl : q2 = q + 1 := by have := OwnI.len hx; rw [HL3.out, HL.out] at this; exact this.symm
            go_wp2_with (go_at_call 23; refine (a2Has_eq _ _ _ _ _ _ _ (by assumption) (by omega) (by assumption)).mono ?_; rintro e w' ⟨rfl, rfl⟩)
            have hx2 := OwnI.ints hx
            have hris := HR2.out
            have hhas := HX3.out
            (go_at_call 22; refine (a2Rises_true _ _ _ _ _ _ (by assumption) (by omega) (by assumption) (by omega)).mono ?_; rintro e w' ⟨rfl, hb⟩)
            replace hx := OwnI.keep hx hb
            replace hx2 := hx2.keep hb
            replace hz := hz.keep hb
            replace hB := belowT hb hB
            clear hb
            go_wp2_with (go_at_call 23; refine (a2Has_eq _ _ _ _ _ _ _ (by assumption) (by omega) (by assumption)).mono ?_; rintro e w' ⟨rfl, rfl⟩)
            have HO2 := Lib.hid (ris_okB HR2.out s0 (by omega))
            refine (specFewest_any _ _ _ _ _ _ hx2 (by omega)).mono ?_
            rintro e w8 ⟨D3, r3, d3, rfl, hf, hb⟩
            have hn2 : newV s (putS zs x) = newL s (putS zs x) := by simp [newV, HO2.out]
            have hn3 : newC s (putS zs x) = 0 := by simp [newC, HO2.out]
            have hrl2 : (newL s (putS zs x)).length = r3 := by have := OwnI.len hf; rw [hn2] at this; exact this
            rw [hn3]
            have HRL2 := Lib.hid hrl2
            have hr360 : r3 ≤ 60 := by rw [← OwnI.len hf]; exact newV_len _ _
            replace hB := belowT hb hB
            clear hb hf hn2 hn3 hrl2 hris hhas
            go_wp2_with fail
            go_ret
            exact ⟨rfl, hB⟩
      · have p1 : (lf != lf) = false := by simp
        have p2 : (lm != lm) = false := by simp
        have p3 : (lm == 0) = false := by rw [beq_eq_false_iff_ne]; omega
        go_wp2_with fail
        · as_aux_lemma =>
          refine (a2At_any _ _ _ 1 _ w.heap.size _ (HZ.out.keep hB) (by omega) (by omega)).mono ?_
          rintro e w' ⟨xg, rfl, x0, x1, rfl⟩
          obtain ⟨g, rfl⟩ : ∃ g : Nat, xg = (g : Int) := ⟨xg.toNat, by omega⟩
          have hg : g ≤ 8 := by omega
          clear x0 x1
          go_wp2_with fail
          refine (specFewest_any _ _ _ _ _ _ hz (by omega)).mono ?_
          rintro e w5 ⟨D1, r, dr, rfl, hf, hb⟩
          have hrl : (newL s zs).length = r := by have := OwnI.len hf; rw [HN2.out] at this; exact this
          have hr60 : r ≤ 60 := by rw [← OwnI.len hf]; exact newV_len _ _
          replace hz := hz.keep hb
          replace hB := belowT hb hB
          clear hb hf
          have HRL := Lib.hid hrl
          clear hrl
          rw [HN.out]
          by_cases hgr : r ≤ g
          · as_aux_lemma =>
            have hgr2 : (newL s zs).length ≤ g := by rw [HRL.out]; exact hgr
            have HM := Lib.hid (mostV_yes HO.out (by omega) HL.out hgr2)
            have e0 := extra_lo (by omega) HR.out hgr2
            have e1 := Nat.min_le_left s (2 * g)
            have e2 := Nat.min_le_right s (2 * g)
            obtain ⟨mm, hmm⟩ : ∃ v : Nat, min s (2 * g) = v := ⟨_, rfl⟩
            rw [hmm] at HM e0 e1 e2
            have HMM := Lib.hid hmm
            rw [HL.out] at e0
            obtain ⟨ex, hex⟩ : ∃ v : Int, (mm : Int) - (q : Int) = v := ⟨_, rfl⟩
            rw [hex] at HM
            have i1 : ¬ ex < 0 := by omega
            have i2 : ¬ (s : Int) - (q : Int) < ex := by omega
            have i3 : ¬ 2 * (g : Int) - (q : Int) < ex := by omega
            have HEX := Lib.hid (show (q : Int) + 1 ≤ mm → 1 ≤ ex by omega)
            clear hmm hex e0 e1 e2 hgr2
            have r1 : decide (r ≤ g) = true := decide_eq_true hgr
            have r2 : (r : Int) ≤ (g : Int) := by omega
            go_wp2_with fail
            refine (implMost_any _ _ _ _ _ _ _ hz (by omega)).mono ?_
            rintro e w6 ⟨he, hb⟩
            rw [HM.out] at he
            subst he
            replace hz := hz.keep hb
            replace hB := belowT hb hB
            clear hb HM
            go_wp2_with fail
            refine (a2At_any _ _ _ 2 _ w.heap.size _ (HZ.out.keep hB) (by omega) (by omega)).mono ?_
            rintro e w' ⟨x, rfl, x0, x1, rfl⟩
            have hin : inB x 0 ((s : Int) - 1) = true := (inB_iff _ _ _).2 (by omega)
            have HIN := Lib.hid hin
            clear hin
            cases hh : hasI zs x
            rotate_left
            · have HBK := Lib.hid (break_yes2 HO.out HIN.out hh)
              go_wp2_with fail
              refine (implBreak_any _ _ _ _ _ _ _ hz (by omega)).mono ?_
              rintro e w7 ⟨D2, q2, d2, rfl, hx, hb⟩
              rw [HBK.out]
              clear hx
              replace hz := hz.keep hb
              replace hB := belowT hb hB
              clear hb HBK
              go_wp2_with (go_at_call 23; refine (a2Has_eq _ _ _ _ _ _ _ (by assumption) (by omega) (by assumption)).mono ?_; rintro e w' ⟨rfl, rfl⟩)
              go_ret
              exact ⟨rfl, hB⟩
            have HBK := Lib.hid (break_yes HO.out HIN.out hh)
            obtain ⟨p1, p2, p3⟩ := put_ris HR.out x0 (by omega) hh
            have HR2 := Lib.hid p1
            have HL3 := Lib.hid p2
            have HX3 := Lib.hid p3
            clear p1 p2 p3
            go_wp2_with fail
            refine (implBreak_any _ _ _ _ _ _ _ hz (by omega)).mono ?_
            rintro e w7 ⟨D2, q2, d2, rfl, hx, hb⟩
            rw [HBK.out] at hx
            rw [HBK.out]
            replace hz := hz.keep hb
            replace hB := belowT hb hB
            clear hb HBK
            obtain rfl : q2 = q + 1 := by have := OwnI.len hx; rw [HL3.out, HL.out] at this; exact this.symm
            go_wp2_with (go_at_call 23; refine (a2Has_eq _ _ _ _ _ _ _ (by assumption) (by omega) (by assumption)).mono ?_; rintro e w' ⟨rfl, rfl⟩)
            have hx2 := OwnI.ints hx
            have hris := HR2.out
            have hhas := HX3.out
            (go_at_call 22; refine (a2Rises_true _ _ _ _ _ _ (by assumption) (by omega) (by assumption) (by omega)).mono ?_; rintro e w' ⟨rfl, hb⟩)
            replace hx := OwnI.keep hx hb
            replace hx2 := hx2.keep hb
            replace hz := hz.keep hb
            replace hB := belowT hb hB
            clear hb
            go_wp2_with (go_at_call 23; refine (a2Has_eq _ _ _ _ _ _ _ (by assumption) (by omega) (by assumption)).mono ?_; rintro e w' ⟨rfl, rfl⟩)
            have HO2 := Lib.hid (ris_okB HR2.out s0 (by omega))
            refine (specFewest_any _ _ _ _ _ _ hx2 (by omega)).mono ?_
            rintro e w8 ⟨D3, r3, d3, rfl, hf, hb⟩
            have hn2 : newV s (putS zs x) = newL s (putS zs x) := by simp [newV, HO2.out]
            have hn3 : newC s (putS zs x) = 0 := by simp [newC, HO2.out]
            have hrl2 : (newL s (putS zs x)).length = r3 := by have := OwnI.len hf; rw [hn2] at this; exact this
            rw [hn3]
            have HRL2 := Lib.hid hrl2
            have hr360 : r3 ≤ 60 := by rw [← OwnI.len hf]; exact newV_len _ _
            replace hB := belowT hb hB
            clear hb hf hn2 hn3 hrl2 hris hhas
            by_cases hgn : g < r3
            · have gn1 : (g : Int) < (r3 : Int) := by omega
              have gn2 : decide (g < r3) = true := decide_eq_true hgn
              go_wp2_with fail
              go_ret
              exact ⟨rfl, hB⟩
            · have gn1 : ¬ (g : Int) < (r3 : Int) := by omega
              have gn2 : decide (g < r3) = false := decide_eq_false hgn
              have ex1 : (1 : Int) ≤ ex := HEX.out (by rw [← HMM.out, ← HL.out]; exact extra_ge (by omega) HR2.out HL3.out (by rw [HRL2.out]; omega))
              go_wp2_with fail
              go_ret
              exact ⟨rfl, hB⟩
          · as_aux_lemma =>
            have HM := Lib.hid (mostV_no HO.out (show g ≤ 60 by omega) (by rw [HRL.out]; exact hgr))
            have r1 : decide (r ≤ g) = false := decide_eq_false hgr
            have r2 : ¬ (r : Int) ≤ (g : Int) := by omega
            go_wp2_with fail
            refine (implMost_any _ _ _ _ _ _ _ hz (by omega)).mono ?_
            rintro e w6 ⟨he, hb⟩
            rw [HM.out] at he
            subst he
            replace hz := hz.keep hb
            replace hB := belowT hb hB
            clear hb HM
            go_wp2_with fail
            refine (a2At_any _ _ _ 2 _ w.heap.size _ (HZ.out.keep hB) (by omega) (by omega)).mono ?_
            rintro e w' ⟨x, rfl, x0, x1, rfl⟩
            have hin : inB x 0 ((s : Int) - 1) = true := (inB_iff _ _ _).2 (by omega)
            have HIN := Lib.hid hin
            clear hin
            cases hh : hasI zs x
            rotate_left
            · have HBK := Lib.hid (break_yes2 HO.out HIN.out hh)
              go_wp2_with fail
              refine (implBreak_any _ _ _ _ _ _ _ hz (by omega)).mono ?_
              rintro e w7 ⟨D2, q2, d2, rfl, hx, hb⟩
              rw [HBK.out]
              clear hx
              replace hz := hz.keep hb
              replace hB := belowT hb hB
              clear hb HBK
              go_wp2_with (go_at_call 23; refine (a2Has_eq _ _ _ _ _ _ _ (by assumption) (by omega) (by assumption)).mono ?_; rintro e w' ⟨rfl, rfl⟩)
              go_ret
              exact ⟨rfl, hB⟩
            have HBK := Lib.hid (break_yes HO.out HIN.out hh)
            obtain ⟨p1, p2, p3⟩ := put_ris HR.out x0 (by omega) hh
            have HR2 := Lib.hid p1
            have HL3 := Lib.hid p2
            have HX3 := Lib.hid p3
            clear p1 p2 p3
            go_wp2_with fail
            refine (implBreak_any _ _ _ _ _ _ _ hz (by omega)).mono ?_
            rintro e w7 ⟨D2, q2, d2, rfl, hx, hb⟩
            rw [HBK.out] at hx
            rw [HBK.out]
            replace hz := hz.keep hb
            replace hB := belowT hb hB
            clear hb HBK
            obtain rfl : q2 = q + 1 := by have := OwnI.len hx; rw [HL3.out, HL.out] at this; exact this.symm
            go_wp2_with (go_at_call 23; refine (a2Has_eq _ _ _ _ _ _ _ (by assumption) (by omega) (by assumption)).mono ?_; rintro e w' ⟨rfl, rfl⟩)
            have hx2 := OwnI.ints hx
            have hris := HR2.out
            have hhas := HX3.out
            (go_at_call 22; refine (a2Rises_true _ _ _ _ _ _ (by assumption) (by omega) (by assumption) (by omega)).mono ?_; rintro e w' ⟨rfl, hb⟩)
            replace hx := OwnI.keep hx hb
            replace hx2 := hx2.keep hb
            replace hz := hz.keep hb
            replace hB := belowT hb hB
            clear hb
            go_wp2_with (go_at_call 23; refine (a2Has_eq _ _ _ _ _ _ _ (by assumption) (by omega) (by assumption)).mono ?_; rintro e w' ⟨rfl, rfl⟩)
            have HO2 := Lib.hid (ris_okB HR2.out s0 (by omega))
            refine (specFewest_any _ _ _ _ _ _ hx2 (by omega)).mono ?_
            rintro e w8 ⟨D3, r3, d3, rfl, hf, hb⟩
            have hn2 : newV s (putS zs x) = newL s (putS zs x) := by simp [newV, HO2.out]
            have hn3 : newC s (putS zs x) = 0 := by simp [newC, HO2.out]
            have hrl2 : (newL s (putS zs x)).length = r3 := by have := OwnI.len hf; rw [hn2] at this; exact this
            rw [hn3]
            have HRL2 := Lib.hid hrl2
            have hr360 : r3 ≤ 60 := by rw [← OwnI.len hf]; exact newV_len _ _
            replace hB := belowT hb hB
            clear hb hf hn2 hn3 hrl2 hris hhas
            go_wp2_with fail
            go_ret
            exact ⟨rfl, hB⟩
end Go.Proofs.Ytniifpfhfpcmcaa
