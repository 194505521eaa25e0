/- FnColourWords: the law. -/
import Derived.Test.YtipelbhikomkiaaCwF
namespace Go.Proofs.Ytipelbhikomkiaa
open Go.RowKit
set_option linter.unusedVariables false
set_option linter.unusedSimpArgs false

theorem ownS_app {w1 : World} {base q : Nat} {v1 : Value} {L : List ByteArray} {z : ByteArray} (h : w1.ownsRow base 9 1 v1 (q + 1) (L.map Value.string ++ [.string z])) : ∃ C p, v1 = .slice C (q + 1) p ∧ OwnS w1 base (.slice C (q + 1) p) (q + 1) (L ++ [z]) := by
  have e : L.map Value.string ++ [.string z] = (L ++ [z]).map Value.string := by simp
  rw [e] at h
  rcases h.2 with ⟨_, h0⟩ | ⟨g, cap, cur, hv, _⟩
  · omega
  · subst hv; exact ⟨_, _, rfl, h⟩
theorem bt_ne {s t : ByteArray} {a b : Nat} (ha : a < s.size) (hb : b < t.size) (e : bt s a = bt t b) : (((s[a]'ha).toNat : Int) != ((t[b]'hb).toNat : Int)) = false := by
  rw [bt_eq ha, bt_eq hb, e]; simp
theorem rowsL_sz {s : ByteArray} {t k : Nat} (t60 : t ≤ 60) : ∀ x ∈ rowsL s t k, x.size ≤ maxLen := fun x hx => by
  obtain ⟨i, _, rfl⟩ := rowsL_mem hx
  rw [rowN_size]; unfold maxLen; omega
set_option maxRecDepth 100000 in
set_option maxHeartbeats 4000000 in
theorem law_FnColourWords (w : World) (A : Option Addr) (n c : Nat) (zs : List Int) (h0 : IsInts .u8 w A n zs) (B : Option Addr) (m d : Nat) (ys : List Int) (g0 : IsInts .u8 w B m ys) : Calls Try.prog 13 #[.slice A n c, .slice B m d] w fun e w' => e = .returned (.bool true) ∧ Below w.heap.size w w' := by
  have hY := bytes_of h0
  have hZ := bytes_of g0
  obtain ⟨i0, hi0, hz0, hz1, hz2⟩ := info_parts info_str
  cases hbig : decide (3000 < n ∨ 3000 < m)
  case true =>
    go_enter Try.func13, Try.ntmps13
    go_wp2_with fail
    refine (a2Long_any _ _ _ _ _ _ true _ hY.1 hZ.1 hbig).mono ?_
    rintro e w' ⟨rfl, rfl⟩
    go_wp2_with fail
    go_ret
    exact ⟨rfl, Below.refl _ _⟩
  go_enter Try.func13, Try.ntmps13
  go_wp2_with fail
  refine (a2Long_any _ _ _ _ _ _ false _ hY.1 hZ.1 hbig).mono ?_
  rintro e w' ⟨rfl, rfl⟩
  clear hbig
  go_wp2_with fail
  refine (a2Word_any _ _ _ _ hY).mono ?_
  rintro e w1 ⟨s, rfl, hW0, hB1⟩
  have HW := Box0.mk hW0
  have l1 := hW0.l1
  have l2 := hW0.l2
  have hsm : s.size ≤ maxLen := by unfold maxLen; omega
  clear hW0
  replace hZ := Box0.mk hZ
  clear hY
  go_wp2_with fail
  refine (a2At_any _ _ _ 0 _ _ _ (hZ.out.keep hB1) (by omega) (by omega)).mono ?_
  rintro e w' ⟨v, rfl, v0, v1, rfl⟩
  obtain ⟨st, hst⟩ : ∃ st : Nat, v = (st : Int) := ⟨v.toNat, by omega⟩
  subst hst
  have st1 : st ≤ 11 := by omega
  clear v0 v1
  go_wp2_with fail
  obtain ⟨t, ht⟩ : ∃ t : Nat, 3 + (st : Int) = (t : Int) := ⟨3 + st, by omega⟩
  have t3 : 3 ≤ t := by omega
  have t14 : t ≤ 14 := by omega
  simp only [ht]
  clear ht st1
  go_loopw [7, 8] (fun v i wr => ∃ k : Nat, k ≤ 4 ∧ i = .int .i64 k ∧ (∃ C p, v = .slice C k p ∧ OwnS wr w1.heap.size (.slice C k p) k (rowsL s t k)) ∧ Below w1.heap.size w1 wr) (fun _ i _ => 4 - (intOf i).toNat)
  case atStart =>
    refine ⟨0, Nat.zero_le _, rfl, ⟨_, _, rfl, ?_⟩, ?_⟩
    · exact World.ownsRow_made _ _ _ (by simp) (by unfold maxLen; omega) (by simp)
    · exact (Below.refl _ _).alloc (Nat.le_refl _) _
  case round =>
  obtain ⟨k, k4, rfl, ⟨C, p, rfl, hown⟩, hB⟩ := hrel
  have hBW := belowT hB hB1
  have hsz := hB.size
  go_wp2_with fail
  refine (a2At_any _ _ _ 1 _ _ _ (hZ.out.keep hBW) (by omega) (by omega)).mono ?_
  rintro e w' ⟨v, rfl, v0, v1, rfl⟩
  by_cases hlt : (k : Int) < 1 + v
  · have k3 : k ≤ 3 := by omega
    have Hrv := Lib.hid (rowV_wd (t := t) (i := k) HW.out t3 (by omega) (by omega))
    obtain ⟨x, hx⟩ : ∃ x, rowN s t k = x := ⟨_, rfl⟩
    have hxs : x.size = t := by rw [← hx, rowN_size]
    have hxb := Box0.mk (show ∀ j, j < t → bt x j = bt s ((k * t + j) % s.size) from fun j hj => by rw [← hx]; exact rowN_bt hj)
    have Hx := Lib.hid hx
    clear hx
    go_wp2_with fail
    refine (implRowOf_any _ _ _ _ hsm).mono ?_
    rintro e w2 ⟨he, hb2⟩
    rw [Hrv.out, Hx.out] at he
    subst he
    have Hxs := Lib.hid hxs
    replace hown := OwnS.keep hown hb2
    replace hB := belowT hb2 hB
    clear hb2 hBW hsz
    have hsz := hB.size
    have x3 := mulb (x := (k : Int)) (y := (t : Int)) (A := 3) (B := 14) (by omega) (by omega) (by omega) (by omega)
    have HC := Lib.hid (show (k : Int) * (t : Int) = ((k * t : Nat) : Int) by push_cast; rfl)
    have hxc : (x.size : Int) = (t : Int) := by omega
    go_wp2_with fail
    obtain ⟨wo, hwo⟩ : ∃ wo : World, wo = w2 := ⟨_, rfl⟩
    subst hwo
    go_loopw [11] (fun i wi => ∃ j : Nat, j ≤ t ∧ i = .int .i64 j ∧ ∃ q, wi = wo.drewN q) (fun i _ => t - (intOf i).toNat)
    case atStart => exact ⟨0, Nat.zero_le _, rfl, 0, rfl⟩
    case round =>
    obtain ⟨j, j1, rfl, q2, rfl⟩ := hrel
    by_cases hj : j < t
    · obtain ⟨ra0, ra1, ra2, ra3⟩ := along_mod (f := k * t) (k := j) l1
      rw [← HC.out] at ra0 ra1 ra2
      have hjx : j < x.size := by rw [Hxs.out]; exact hj
      have hcm := bt_ne hjx ra3 (hxb.out j hj)
      go_wp2_with fail
      go_quiet (fail)
      go_wp2
      go_roundw
      case rel => exact ⟨j + 1, by omega, by go_num, (by first | exact ⟨_, rfl⟩ | exact drew2 _ _ _ | exact ⟨0, rfl⟩)⟩
      case measure => simp [intOf]; omega
    · obtain rfl : j = t := by omega
      replace hown := OwnS.keep hown (drew_below _ q2)
      replace hB := below_drewN hB q2
      generalize World.drewN wo q2 = wq at *
      clear hsz
      have hsz := hB.size
      go_wp2_with (at_builtin; refine wpList_append_own _ rfl _ _ 39 rfl w1.heap.size 9 i0 (.string ⟨#[]⟩) 1 16 Try.underlying39 hi0 hz0 hz1 hz2 rfl (by decide) _ _ _ rfl (hown.alloc _) ⟨_, 0, none⟩ 1 1 [.string x] rfl rfl (cell_one_new _ _ _) (by simp [Value.oneCell']) (by unfold maxLen; omega) (by omega) (by simp; omega) ?_; intro v1 w3 hown1 hgrow1 _)
      go_roundw
      case rel =>
        obtain ⟨C', p', rfl, hown'⟩ := ownS_app hown1
        refine ⟨k + 1, by omega, by go_num, ⟨_, _, rfl, ?_⟩, below_app hB hown hgrow1⟩
        rw [rowsL_succ, Hx.out]
        exact hown'
      case measure => simp [intOf]; omega
  have k1 : 1 ≤ k := by omega
  have HS := Box0.mk (OwnS.strs hown)
  clear hown
  obtain ⟨x, hx, x1, x2, hxS, hxW⟩ := short_facts (s := s) (t := t) (k := k) HW.out t3 (by omega) k1 (by omega)
  obtain ⟨y, hy, hyS⟩ := own_facts (s := s) (t := t) (k := k) HW.out t3 (by omega) k1 (by omega)
  have HX := Lib.hid hx
  have HY := Lib.hid hy
  have HXS := Box0.mk hxS
  have HXW := Box0.mk hxW
  have HYS := Box0.mk hyS
  have hys := hyS.size
  clear hx hy hxS hxW hyS
  have hsm2 := Box0.mk (rowsL_sz (s := s) (t := t) (k := k) (by omega))
  go_wp2_with fail
  clear v0 v1 hlt
  refine (implShortestWord_any _ _ _ _ _ HS.out (by omega) hsm2.out).mono ?_
  rintro e w2 ⟨he, hb2⟩
  rw [HX.out] at he
  subst he
  replace HS := Box0.mk (HS.out.keep hb2)
  replace hB := belowT hb2 hB
  clear hb2
  go_wp2_with fail
  refine (implWordFor_any _ _ _ _ _ _ HS.out (by omega) hsm2.out).mono ?_
  rintro e w3 ⟨he, hb3⟩
  rw [HY.out] at he
  subst he
  replace HS := Box0.mk (HS.out.keep hb3)
  replace hB := belowT hb3 hB
  clear hb3 hBW hsz
  have d1 : decide ((x.size : Int) < 1) = false := decide_eq_false (by omega)
  have d2 : decide (s.size < x.size) = false := decide_eq_false (by omega)
  have d3 : decide ((s.size : Int) < (x.size : Int)) = false := decide_eq_false (by omega)
  have y1 : ((y.size : Int) != (s.size : Int)) = false := by rw [hys]; simp
  go_wp2_with fail
  refine (a2Low_any _ _ (by omega) HXS.out.low).mono ?_
  rintro e w' ⟨rfl, rfl⟩
  go_wp2_with fail
  refine (a2Low_any _ _ (by omega) HYS.out.low).mono ?_
  rintro e w' ⟨rfl, rfl⟩
  clear y1
  go_wp2_with fail
  obtain ⟨wo, hwo⟩ : ∃ wo : World, wo = w3 := ⟨_, rfl⟩
  subst hwo
  go_loopw [16] (fun i wi => ∃ j : Nat, 1 ≤ j ∧ i = .int .i64 j ∧ Below wo.heap.size wo wi) (fun i _ => x.size - (intOf i).toNat)
  case atStart => exact ⟨1, Nat.le_refl _, rfl, Below.refl _ _⟩
  case round =>
  obtain ⟨j, j1, rfl, hbi⟩ := hrel
  by_cases hj : j < x.size
  · have Hj := Lib.hid (HXW.out j j1 hj)
    go_wp2_with fail
    refine (implWordFor_any _ _ _ _ _ _ (HS.out.keep hbi) (by omega) hsm2.out).mono ?_
    rintro e w4 ⟨he, hb4⟩
    rw [Hj.out] at he
    subst he
    go_wp2_with fail
    go_roundw
    case rel => exact ⟨j + 1, by omega, by go_num, belowT hb4 hbi⟩
    case measure => simp [intOf]; omega
  replace HS := Box0.mk (HS.out.keep hbi)
  replace hB := belowT hbi hB
  clear hbi
  go_wp2_with fail
  obtain ⟨wp, hwp⟩ : ∃ wp : World, wp = wr := ⟨_, rfl⟩
  subst hwp
  go_loopw [19] (fun i wi => ∃ j : Nat, j ≤ k ∧ i = .int .i64 j ∧ Below wp.heap.size wp wi) (fun i _ => k - (intOf i).toNat)
  case atStart => exact ⟨0, Nat.zero_le _, rfl, Below.refl _ _⟩
  case round =>
  obtain ⟨i, i1, rfl, hbi⟩ := hrel
  by_cases hi : i < k
  · have Hxi := Lib.hid (HXS.out.row i hi)
    have Hyi := Lib.hid (HYS.out.row i hi)
    have hxm : x.size ≤ maxLen := by unfold maxLen; omega
    have hym : y.size ≤ maxLen := by unfold maxLen; omega
    have Hri := Lib.hid (rowsL_at (s := s) (t := t) hi)
    obtain ⟨z, hz⟩ : ∃ z, rowN s t i = z := ⟨_, rfl⟩
    rw [hz] at Hxi Hyi Hri
    clear hz
    go_wp2_with fail
    refine (specRowOf_any _ _ _ _ hxm).mono ?_
    rintro e w4 ⟨he, hb4⟩
    rw [Hxi.out] at he
    subst he
    have hbj := belowT hb4 hbi
    clear hb4
    go_wp2_with fail
    refine (specRowOf_any _ _ _ _ hym).mono ?_
    rintro e w5 ⟨he, hb5⟩
    rw [Hyi.out] at he
    subst he
    have hbk := belowT hb5 hbj
    clear hb5 hbj
    obtain ⟨b, off, z2, rfl, hblt, hz2, hcz⟩ := (HS.out.keep hbk).at_ hi
    rw [Hri.out] at hz2
    injection hz2 with hz2
    subst hz2
    have ht : (z.toList == z.toList) = true := by simp
    have ht2 : (z.toList != z.toList) = false := by simp
    go_wp2_with fail
    go_roundw
    case rel => exact ⟨i + 1, by omega, by go_num, hbk⟩
    case measure => simp [intOf]; omega
  · obtain rfl : i = k := by omega
    have hbW := belowT (belowT hbi hB) hB1
    go_wp2_with fail
    go_ret
    exact ⟨rfl, hbW⟩
end Go.Proofs.Ytipelbhikomkiaa
