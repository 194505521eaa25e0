/- FnSpirals: the law. -/
import Derived.Test.YtipelbhikomkiaaSpA
namespace Go.Proofs.Ytipelbhikomkiaa
open Go.RowKit
set_option linter.unusedVariables false
set_option linter.unusedSimpArgs false

theorem bu_cmp {s : ByteArray} {a b : Nat} (ha : a < s.size) (hb : b < s.size) : (((s[a]'ha).toNat : Int) == ((s[b]'hb).toNat : Int)) = (bu s a == bu s b) := by
  have e : ∀ {i : Nat} (h : i < s.size), bu s i = s[i]'h := fun {i} h => by
    unfold bu; rw [List.getD_eq_getElem?_getD, List.getElem?_eq_getElem (by simpa using h)]; rfl
  rw [e ha, e hb, Bool.eq_iff_iff, beq_iff_eq, beq_iff_eq]
  constructor
  · intro h; exact UInt8.toNat_inj.1 (by omega)
  · intro h; rw [h]
theorem bt_cmp {s : ByteArray} {a : Nat} (ha : a < s.size) (c : Nat) : (((s[a]'ha).toNat : Int) == (c : Int)) = decide (bt s a = c) := by
  rw [bt_eq ha, Bool.eq_iff_iff, beq_iff_eq, decide_eq_true_iff]
  omega
theorem a2Rises_i (S : Int) (A : Option Addr) (n c s : Nat) (zs : List Int) (w : World) (hS : S = (s : Int)) (h : Ints w A n zs) (hn : n ≤ 1048576) (hr : Ris s zs) (hs : s ≤ 1000) : Calls Try.prog 41 #[.slice A n c, .int .i64 S] w fun e w' =>
    e = .returned (.bool true) ∧ Below w.heap.size w w' := by
  subst hS; exact a2Rises_true A n c s zs w h hn hr hs
theorem cnt_yes {s : ByteArray} {d k : Nat} (h : decide (bt s (k % s.size) = d) = true) : cnt s d (k + 1) = cnt s d k + 1 := by rw [cnt, if_pos (of_decide_eq_true h)]
theorem cnt_no {s : ByteArray} {d k : Nat} (h : decide (bt s (k % s.size) = d) = false) : cnt s d (k + 1) = cnt s d k := by rw [cnt, if_neg (of_decide_eq_false h), Nat.add_zero]
set_option maxRecDepth 100000 in
set_option maxHeartbeats 4000000 in
theorem law_FnSpirals (w : World) (A : Option Addr) (n c : Nat) (zs : List Int) (h0 : IsInts .u8 w A n zs) (B : Option Addr) (m d : Nat) (ys : List Int) (g0 : IsInts .u8 w B m ys) : Calls Try.prog 12 #[.slice A n c, .slice B m d] w fun e w' => e = .returned (.bool true) ∧ Below w.heap.size w w' := by
  have hY := bytes_of h0
  have hZ := bytes_of g0
  cases hbig : decide (3000 < n ∨ 3000 < m)
  case true =>
    go_enter Try.func12, Try.ntmps12
    go_wp2_with fail
    refine (a2Long_any _ _ _ _ _ _ true _ hY.1 hZ.1 hbig).mono ?_
    rintro e w' ⟨rfl, rfl⟩
    go_wp2_with fail
    go_ret
    exact ⟨rfl, Below.refl _ _⟩
  go_enter Try.func12, Try.ntmps12
  go_wp2_with fail
  refine (a2Long_any _ _ _ _ _ _ false _ hY.1 hZ.1 hbig).mono ?_
  rintro e w' ⟨rfl, rfl⟩
  clear hbig
  go_wp2_with fail
  refine (a2Word_any _ _ _ _ hY).mono ?_
  rintro e w1 ⟨s, rfl, hW0, hB1⟩
  have HW := Box0.mk hW0
  have l1 := hW0.l1
  have l2 := hW0.l2
  have hsm : s.size ≤ maxLen := by unfold maxLen; omega
  clear hW0
  replace hZ := Box0.mk hZ
  clear hY
  go_wp2_with fail
  refine (a2At_any _ _ _ 0 _ _ _ (hZ.out.keep hB1) (by omega) (by omega)).mono ?_
  rintro e w' ⟨v, rfl, v0, v1, rfl⟩
  obtain ⟨st, hst⟩ : ∃ st : Nat, v = (st : Int) := ⟨v.toNat, by omega⟩
  subst hst
  have st1 : st ≤ 15 := by omega
  clear v0 v1
  go_wp2_with fail
  obtain ⟨t, ht⟩ : ∃ t : Nat, 3 + (st : Int) = (t : Int) := ⟨3 + st, by omega⟩
  have t3 : 3 ≤ t := by omega
  have t18 : t ≤ 18 := by omega
  simp only [ht]
  clear ht st1
  obtain ⟨mv, hmv, mv1, mv2, mv3, mv4⟩ := spir_facts (n := t) HW.out t3 (by omega)
  have Hmv := Lib.hid hmv
  clear hmv
  refine (implSpiralOf_any _ _ _ hsm).mono ?_
  rintro e w' ⟨he, rfl⟩
  rw [Hmv.out] at he
  subst he
  go_wp2_with fail
  obtain ⟨ag, hag, ag1, ag2, ag3, ag4⟩ := again_facts (n := t) HW.out t3 (by omega)
  have Hag := Lib.hid hag
  have Hag3 := Lib.hid ag3
  have Hag4 := Box0.mk ag4
  clear hag ag3 ag4
  have Hmv3 := Lib.hid mv3
  clear mv3
  refine (implRowsAgain_any _ _ _ hsm).mono ?_
  rintro e w' ⟨he, k0, rfl⟩
  rw [Hag.out] at he
  subst he
  go_wp2_with fail
  refine (implStr_any _ _ _ hsm).mono ?_
  rintro e w2 ⟨C, q, p, rfl, ho, hb2⟩
  have hv := strV_wd (n := t) HW.out t3 (by omega)
  rw [hv] at ho
  simp only [hv]
  have hB2 := belowT hb2 (below_drewN hB1 _)
  have hO := Box0.mk (OwnI.ints ho)
  have hq : q ≤ 60 := by have h1 := strL_len s (t - 2); have h2 := OwnI.len ho; simp only at h2; omega
  clear hv ho hb2 hB1
  have hne : ¬ s = ByteArray.empty := fun e => by subst e; exact absurd l1 (by decide)
  have x1 : ((mv + (t : Int)) % (s.size : Int) != 0) = false := by rw [Hmv3.out]; rfl
  have x2 : ((ag : Int) * (t : Int) % (s.size : Int) != 0) = false := by rw [Hag3.out]; rfl
  have x3 := mulb (x := (ag : Int)) (y := (t : Int)) (A := 10) (B := 18) (by omega) (by omega) (by omega) (by omega)
  go_wp2_with fail
  refine (a2Rises_i _ _ _ _ (t + 1) _ _ (by push_cast; rfl) hO.out (by omega) (strL_ris s t3) (by omega)).mono ?_
  rintro e w3 ⟨rfl, hb3⟩
  clear x1 x2 x3
  replace hO := Box0.mk (hO.out.keep hb3)
  have hB3 := belowT hb3 hB2
  clear hb3 hB2
  go_wp2_with fail
  go_loop [14] (fun i => ∃ k : Nat, 1 ≤ k ∧ i = .int .i64 k) (fun i => ag - (intOf i).toNat)
  case atStart => exact ⟨1, Nat.le_refl _, rfl⟩
  case round =>
  obtain ⟨k, k1, rfl⟩ := hrel
  by_cases hk : k < ag
  · have x3 := mulb (x := (k : Int)) (y := (t : Int)) (A := 10) (B := 18) (by omega) (by omega) (by omega) (by omega)
    have x1 : ((k : Int) * (t : Int) % (s.size : Int) == 0) = false := by rw [beq_eq_false_iff_ne]; exact Hag4.out k k1 hk
    go_wp2_with fail
    go_round
    case rel => exact ⟨k + 1, by omega, by go_num⟩
    case measure => simp [intOf]; omega
  go_wp2_with fail
  obtain ⟨wo, hwo⟩ : ∃ wo : World, wo = w3 := ⟨_, rfl⟩
  subst hwo
  go_loopw [15] (fun i wr => ∃ m : Nat, i = .int .i64 m ∧ m ≤ t + 1 ∧ ∃ q, wr = wo.drewN q) (fun i _ => t + 1 - (intOf i).toNat)
  case atStart => exact ⟨0, rfl, by omega, 0, rfl⟩
  case round =>
  obtain ⟨m, rfl, hm1, q0, rfl⟩ := hrel
  by_cases hm : m ≤ t
  · have hhas0 := strL_has s t3 hm
    rw [← upB_end l1] at hhas0
    have hU := Box0.mk hhas0
    have hu1 := upB_one s m
    have hu2 : decide (3 ≤ m) = upB s m 1 := hu1.symm
    have hu3 : decide ((3 : Int) ≤ (m : Int)) = upB s m 1 := by rw [hu1, Bool.eq_iff_iff, decide_eq_true_iff, decide_eq_true_iff]; omega
    clear hhas0 hu1
    have HU1 := Lib.hid hu2
    generalize hb0 : upB s m 1 = b0 at *
    have Hb0 := Lib.hid hb0
    clear hb0
    cases b0
    all_goals
      go_wp2_with fail
      go_loopw [16, 17] (fun u i wi => ∃ r : Nat, 1 ≤ r ∧ r ≤ s.size ∧ i = .int .i64 r ∧ (∃ b, u = .bool b ∧ Box0 (upB s m r = b)) ∧ ∃ q, wi = wo.drewN q) (fun _ i _ => s.size - (intOf i).toNat)
      case atStart => exact ⟨1, Nat.le_refl _, l1, rfl, ⟨_, rfl, ⟨Hb0.out⟩⟩, _, rfl⟩
      case round =>
      clear hu2 hu3
      obtain ⟨r, r1, r2, rfl, ⟨b, rfl, hb⟩, q1, rfl⟩ := hrel
      by_cases hr : r < s.size
      · cases b
        · have hhas := hU.out
          rw [upB_false hb.out _ r2] at hhas
          (go_wp2_with fail; refine (a2Has_eq _ _ _ _ _ false _ (hO.out.drewN _) (by omega) hhas).mono ?_; rintro e w' ⟨rfl, rfl⟩; go_wp2_with fail; go_roundw; (case rel => exact ⟨m + 1, by go_num, by omega, _, rfl⟩); (case measure => simp [intOf]; omega))
        · have x3 := mulb (x := (r : Int)) (y := (m : Int)) (A := 10) (B := 18) (by omega) (by omega) (by omega) (by omega)
          have HC := Lib.hid (show (r : Int) * (m : Int) = ((r * m : Nat) : Int) by push_cast; rfl)
          go_wp2_with fail
          go_loopw [16, 18] (fun u i wi => ∃ j : Nat, j ≤ m ∧ i = .int .i64 j ∧ (∃ b, u = .bool b ∧ Box0 (innB s r m j = b)) ∧ ∃ q, wi = wo.drewN q) (fun _ i _ => m - (intOf i).toNat)
          case atStart => exact ⟨0, Nat.zero_le _, rfl, ⟨_, rfl, ⟨rfl⟩⟩, _, rfl⟩
          case round =>
          obtain ⟨j, j1, rfl, ⟨b, rfl, hib⟩, q2, rfl⟩ := hrel
          by_cases hj : j < m
          · obtain ⟨ra0, ra1, ra2, ra3⟩ := along_mod (f := r * m) (k := j) l1
            rw [← HC.out] at ra0 ra1 ra2
            obtain ⟨rb0, rb1, rb2, rb3⟩ := mod_facts (k := j) l1
            have hs := innB_succ s r m j
            rw [hib.out, ← bu_cmp ra3 rb3] at hs
            have HS := Lib.hid hs
            clear hs
            cases b
            · go_wp2_with fail
              go_quiet (fail)
              go_wp2
              go_roundw
              case rel => exact ⟨j + 1, by omega, by go_num, ⟨_, rfl, ⟨by rw [HS.out]; rfl⟩⟩, (by first | exact ⟨_, rfl⟩ | exact drew2 _ _ _ | exact ⟨0, rfl⟩)⟩
              case measure => simp [intOf]; omega
            · cases hcm : ((((s[(r * m + j) % s.size]'ra3).toNat : Int) == ((s[j % s.size]'rb3).toNat : Int)))
              all_goals
                have HCM := Lib.hid hcm
                go_wp2_with fail
                go_quiet (fail)
                go_wp2
                go_roundw
                case rel => exact ⟨j + 1, by omega, by go_num, ⟨_, rfl, ⟨by rw [HS.out, HCM.out]; rfl⟩⟩, (by first | exact ⟨_, rfl⟩ | exact drew2 _ _ _ | exact ⟨0, rfl⟩)⟩
                case measure => simp [intOf]; omega
          · obtain rfl : j = m := by omega
            have HB := Box0.mk (show upB s j (r + 1) = b by rw [upB_succ, hb.out, hib.out]; rfl)
            go_wp2_with fail
            go_roundw
            case rel => exact ⟨r + 1, by omega, by omega, by go_num, ⟨_, rfl, HB⟩, _, rfl⟩
            case measure => simp [intOf]; omega
      · obtain rfl : r = s.size := by omega
        have hhas := hU.out
        rw [hb.out] at hhas
        cases b
        · (go_wp2_with fail; refine (a2Has_eq _ _ _ _ _ false _ (hO.out.drewN _) (by omega) hhas).mono ?_; rintro e w' ⟨rfl, rfl⟩; go_wp2_with fail; go_roundw; (case rel => exact ⟨m + 1, by go_num, by omega, _, rfl⟩); (case measure => simp [intOf]; omega))
        · (go_wp2_with fail; refine (a2Has_eq _ _ _ _ _ true _ (hO.out.drewN _) (by omega) hhas).mono ?_; rintro e w' ⟨rfl, rfl⟩; go_wp2_with fail; go_roundw; (case rel => exact ⟨m + 1, by go_num, by omega, _, rfl⟩); (case measure => simp [intOf]; omega))
  obtain rfl : m = t + 1 := by omega
  go_wp2_with fail
  have hB4 := below_drewN hB3 q0
  generalize World.drewN wo q0 = wq at *
  refine (a2At_any _ _ _ 1 _ _ _ (hZ.out.keep hB4) (by omega) (by omega)).mono ?_
  rintro e w' ⟨v, rfl, v0, v1, rfl⟩
  obtain ⟨R, hR⟩ : ∃ R : Nat, v = (R : Int) := ⟨v.toNat, by omega⟩
  subst hR
  have R1 : R ≤ 9 := by omega
  clear v0 v1
  go_wp2_with fail
  have Hcv := Lib.hid (countV_wd (n := t) (r := R) HW.out t3 (by omega) (by omega))
  refine (implCountColour_any _ _ _ _ _ hsm (by unfold maxLen; decide)).mono ?_
  rintro e w' ⟨he, k1, rfl⟩
  rw [Hcv.out] at he
  subst he
  have hB5 := below_drewN hB4 k1
  generalize World.drewN wq k1 = wp at *
  clear hB4
  have hp := mulb (x := (R : Int)) (y := (t : Int)) (A := 9) (B := 18) (by omega) (by omega) (by omega) (by omega)
  go_wp2_with fail
  go_loop [22, 23] (fun u i => ∃ k : Nat, k ≤ R * t ∧ i = .int .i64 k ∧ u = .int .i64 (cnt s 97 k : Nat)) (fun _ i => R * t - (intOf i).toNat)
  case atStart => exact ⟨0, Nat.zero_le _, rfl, rfl⟩
  case round =>
  obtain ⟨k, hk, rfl, rfl⟩ := hrel
  have hcl := cnt_le s 97 k
  have hRt : R * t ≤ 162 := by have := Nat.mul_le_mul R1 t18; omega
  by_cases hlt : k < R * t
  · have hlt' : (k : Int) < (R : Int) * (t : Int) := by exact_mod_cast hlt
    obtain ⟨ra0, ra1, ra2, ra3⟩ := mod_facts (k := k) l1
    have hcm0 := bt_cmp ra3 97
    cases hcm : decide (bt s (k % s.size) = 97)
    · have HS := Lib.hid (cnt_no hcm)
      rw [hcm] at hcm0
      clear hcm
      go_wp2_with fail
      go_round
      case rel => exact ⟨k + 1, by omega, by go_num, by rw [HS.out]⟩
      case measure => simp [intOf]; omega
    · have HS := Lib.hid (cnt_yes hcm)
      rw [hcm] at hcm0
      clear hcm
      go_wp2_with fail
      go_round
      case rel => exact ⟨k + 1, by omega, by go_num, by rw [HS.out]; go_num⟩
      case measure => simp [intOf]; omega
  obtain rfl : k = R * t := by omega
  have hge : ¬ ((R * t : Nat) : Int) < (R : Int) * (t : Int) := by rw [Int.natCast_mul]; omega
  have hzz := Lib.hid (app_size s)
  have hsz2 : (s ++ s).size ≤ maxLen := by rw [hzz.out]; unfold maxLen; omega
  obtain ⟨ha, hb⟩ := same_two (n := t) HW.out t3 (by omega)
  have Hz := Lib.hid (same_z (n := t) HW.out t3 (by omega))
  by_cases h12 : 2 * s.size ≤ 12
  · have Ha := Lib.hid (ha h12)
    clear ha hb
    have h12' : ¬ (12 : Int) < 2 * (s.size : Int) := by omega
    go_wp2_with fail
    refine (implSameRows_any _ _ _ _ hsm hsz2).mono ?_
    rintro e w' ⟨he, k2, rfl⟩
    rw [Ha.out] at he
    subst he
    go_wp2_with fail
    refine (implSameRows_any _ _ _ _ hsm (by unfold maxLen; decide)).mono ?_
    rintro e w' ⟨he, k3, rfl⟩
    rw [Hz.out] at he
    subst he
    go_wp2_with fail
    go_ret
    exact ⟨rfl, below_drewN hB5 _⟩
  · have Ha := Lib.hid (hb (by omega))
    clear ha hb
    have h12' : (12 : Int) < 2 * (s.size : Int) := by omega
    go_wp2_with fail
    refine (implSameRows_any _ _ _ _ hsm hsz2).mono ?_
    rintro e w' ⟨he, k2, rfl⟩
    rw [Ha.out] at he
    subst he
    go_wp2_with fail
    refine (implSameRows_any _ _ _ _ hsm (by unfold maxLen; decide)).mono ?_
    rintro e w' ⟨he, k3, rfl⟩
    rw [Hz.out] at he
    subst he
    go_wp2_with fail
    go_ret
    exact ⟨rfl, below_drewN hB5 _⟩
end Go.Proofs.Ytipelbhikomkiaa
