/- Contracts of rises, l00Rises, validity of broken stakes. -/
import Derived.Test.YtniifpfhfpcmcaaMem
namespace Go.Proofs.Ytniifpfhfpcmcaa
open Go.RowKit
set_option linter.unusedVariables false
set_option linter.unusedSimpArgs false

/-- Number j of the list fits: it lies within the bounds, and is greater than the one before it. -/
def riseAt (zs : List Int) (lo hi : Int) (j : Nat) : Bool := inB (zs.getD j 0) lo hi && (decide (j = 0) || decide (zs.getD (j - 1) 0 < zs.getD j 0))
def risesB (zs : List Int) (lo hi : Int) : Bool := (List.range zs.length).all fun j => riseAt zs lo hi j
def RiseTill (zs : List Int) (lo hi : Int) (k : Nat) : Prop := ∀ j, j < k → riseAt zs lo hi j = true
theorem riseTill_0 (zs : List Int) (lo hi : Int) : RiseTill zs lo hi 0 := fun _ h => absurd h (by omega)
theorem riseTill_succ {zs : List Int} {lo hi : Int} {k : Nat} (h : RiseTill zs lo hi k) (hk : riseAt zs lo hi k = true) : RiseTill zs lo hi (k + 1) := fun j hj => by
  rcases Nat.lt_succ_iff_lt_or_eq.1 hj with h1 | rfl
  · exact h j h1
  · exact hk
theorem risesB_true {zs : List Int} {lo hi : Int} {n : Nat} (hn : zs.length = n) (h : RiseTill zs lo hi n) : risesB zs lo hi = true := by
  unfold risesB
  rw [List.all_eq_true]
  intro j hj
  exact h j (by rw [← hn]; simpa using hj)
theorem risesB_false {zs : List Int} {lo hi : Int} {k : Nat} (hk : k < zs.length) (h : riseAt zs lo hi k = false) : risesB zs lo hi = false := by
  unfold risesB
  rw [List.all_eq_false]
  exact ⟨k, by simpa using hk, by simpa using h⟩
theorem getD_of {zs : List Int} {k : Nat} {z : Int} (h : zs[k]? = some z) : zs.getD k 0 = z := by
  rw [List.getD_eq_getElem?_getD, h]; rfl
theorem riseAt_out {zs : List Int} {lo hi : Int} {k : Nat} {z : Int} (hz : zs[k]? = some z) (h : inB z lo hi = false) : riseAt zs lo hi k = false := by
  unfold riseAt; rw [getD_of hz, h]; rfl
theorem riseAt_0 {zs : List Int} {lo hi : Int} {z : Int} (hz : zs[0]? = some z) (h : inB z lo hi = true) : riseAt zs lo hi 0 = true := by
  unfold riseAt; rw [getD_of hz, h]; rfl
theorem riseAt_s {zs : List Int} {lo hi : Int} {k : Nat} {p z : Int} (hp : zs[k]? = some p) (hz : zs[k + 1]? = some z) (h : inB z lo hi = true) : riseAt zs lo hi (k + 1) = decide (p < z) := by
  unfold riseAt; rw [getD_of hz, h, Nat.add_sub_cancel, getD_of hp]; simp

theorem rises_any (A : Option Addr) (n c : Nat) (zs : List Int) (lo hi : Int) (w : World) (h : Ints w A n zs) (hn : n ≤ 1048576) : Calls Try.prog 43 #[.slice A n c, .int .i64 lo, .int .i64 hi] w fun e w' =>
    e = .returned (.bool (risesB zs lo hi)) ∧ ∃ q, w' = w.drewN q := by
  have HL := Lib.hid h.1
  go_enter Try.func43, Try.ntmps43
  go_wp2
  go_loopw [11] (fun i wr => ∃ k : Nat, k ≤ n ∧ i = .int .i64 k ∧ RiseTill zs lo hi k ∧ ∃ q, wr = w.drewN q) (fun i _ => n - (intOf i).toNat)
  case atStart => exact ⟨0, Nat.zero_le _, rfl, riseTill_0 _ _ _, 0, rfl⟩
  case round =>
    obtain ⟨k, hk, rfl, he, nw, rfl⟩ := hrel
    by_cases hlt : k < n
    · have k1 : (k : Int) < (n : Int) := by omega
      have k0 : (0 : Int) ≤ (k : Int) := by omega
      obtain ⟨b, off, z, rfl, hblt, hz, hcz⟩ := h.at_ hlt
      have Hz := Lib.hid hz
      clear hz
      by_cases hk0 : k = 0
      · have kp : decide (0 < k) = false := by simp; omega
        have kq : (k : Int) ≤ 0 := by omega
        have Hk0 := Lib.hid hk0
        clear hk0
        cases hin : inB z lo hi
        · go_wp2_with (go_at_call 48; refine (within_eq _ _ _ _ _ (by assumption)).mono ?_; rintro e w' ⟨rfl, rfl⟩)
          go_ret
          exact ⟨ret_bool (risesB_false (by rw [HL.out]; exact hlt) (riseAt_out Hz.out hin)).symm, (by first | exact ⟨_, rfl⟩ | exact drew2 _ _ _ | exact ⟨0, rfl⟩)⟩
        · go_wp2_with (go_at_call 48; refine (within_eq _ _ _ _ _ (by assumption)).mono ?_; rintro e w' ⟨rfl, rfl⟩)
          go_roundw
          case rel => exact ⟨k + 1, by omega, by go_num, riseTill_succ he (by have hz := Hz.out; rw [Hk0.out] at hz ⊢; exact riseAt_0 hz hin), (by first | exact ⟨_, rfl⟩ | exact drew2 _ _ _ | exact ⟨0, rfl⟩)⟩
          case measure => simp [intOf]; omega
      · obtain ⟨b', off', p, hA, hblt', hp, hcp⟩ := h.at_ (show k - 1 < n by omega)
        injection hA with hA
        injection hA with hA1 hA2
        subst hA1 hA2
        have Hp := Lib.hid hp
        clear hp
        have kp : decide (0 < k) = true := by simp; omega
        have kq : (1 : Int) ≤ (k : Int) := by omega
        have k3 : (0 : Int) ≤ (k : Int) - 1 := by omega
        have k4 : (k : Int) - 1 < (n : Int) := by omega
        have k5 : ((k : Int) - 1).toNat = k - 1 := by omega
        have hs : ∀ q, inB z lo hi = true → decide (p < z) = q → riseAt zs lo hi k = q := fun q hin hq => by
          have hp := Hp.out
          have hz := Hz.out
          obtain ⟨m, rfl⟩ : ∃ m, k = m + 1 := ⟨k - 1, by omega⟩
          rw [Nat.add_sub_cancel] at hp
          rw [riseAt_s hp hz hin]
          exact hq
        have Hs := Lib.hid hs
        clear hs
        cases hin : inB z lo hi
        · go_wp2_with (go_at_call 48; refine (within_eq _ _ _ _ _ (by assumption)).mono ?_; rintro e w' ⟨rfl, rfl⟩)
          go_ret
          exact ⟨ret_bool (risesB_false (by rw [HL.out]; exact hlt) (riseAt_out Hz.out hin)).symm, (by first | exact ⟨_, rfl⟩ | exact drew2 _ _ _ | exact ⟨0, rfl⟩)⟩
        · by_cases hpz : p < z
          · go_wp2_with (go_at_call 48; refine (within_eq _ _ _ _ _ (by assumption)).mono ?_; rintro e w' ⟨rfl, rfl⟩)
            go_roundw
            case rel => exact ⟨k + 1, by omega, by go_num, riseTill_succ he (Hs.out true hin (by simpa using hpz)), (by first | exact ⟨_, rfl⟩ | exact drew2 _ _ _ | exact ⟨0, rfl⟩)⟩
            case measure => simp [intOf]; omega
          · go_wp2_with (go_at_call 48; refine (within_eq _ _ _ _ _ (by assumption)).mono ?_; rintro e w' ⟨rfl, rfl⟩)
            go_ret
            exact ⟨ret_bool (risesB_false (by rw [HL.out]; exact hlt) (Hs.out false hin (by simpa using hpz))).symm, (by first | exact ⟨_, rfl⟩ | exact drew2 _ _ _ | exact ⟨0, rfl⟩)⟩
    · obtain rfl : k = n := by omega
      go_wp2
      go_ret
      exact ⟨ret_bool (risesB_true HL.out he).symm, (by first | exact ⟨_, rfl⟩ | exact drew2 _ _ _ | exact ⟨0, rfl⟩)⟩
theorem l00Rises_any (A : Option Addr) (n c : Nat) (zs : List Int) (lo hi : Int) (w : World) (h : Ints w A n zs) (hn : n ≤ 1048576) : Calls Try.prog 54 #[.slice A n c, .int .i64 lo, .int .i64 hi] w fun e w' =>
    e = .returned (.bool (risesB zs lo hi)) ∧ ∃ q, w' = w.drewN q := by
  have HL := Lib.hid h.1
  go_enter Try.func54, Try.ntmps54
  go_wp2
  go_loopw [7] (fun i wr => ∃ k : Nat, k ≤ n ∧ i = .int .i64 k ∧ RiseTill zs lo hi k ∧ ∃ q, wr = w.drewN q) (fun i _ => n - (intOf i).toNat)
  case atStart => exact ⟨0, Nat.zero_le _, rfl, riseTill_0 _ _ _, 0, rfl⟩
  case round =>
    obtain ⟨k, hk, rfl, he, nw, rfl⟩ := hrel
    by_cases hlt : k < n
    · have k1 : (k : Int) < (n : Int) := by omega
      have k0 : (0 : Int) ≤ (k : Int) := by omega
      obtain ⟨b, off, z, rfl, hblt, hz, hcz⟩ := h.at_ hlt
      have Hz := Lib.hid hz
      clear hz
      by_cases hk0 : k = 0
      · have kp : decide (0 < k) = false := by simp; omega
        have kq : (k : Int) ≤ 0 := by omega
        have Hk0 := Lib.hid hk0
        clear hk0
        cases hin : inB z lo hi
        · (go_wp2; go_quiet ((go_at_call 57; exact quiet_add_same (l00In_eq _ _ _ _ _ (by assumption)))); go_wp2)
          go_ret
          exact ⟨ret_bool (risesB_false (by rw [HL.out]; exact hlt) (riseAt_out Hz.out hin)).symm, (by first | exact ⟨_, rfl⟩ | exact drew2 _ _ _ | exact ⟨0, rfl⟩)⟩
        · (go_wp2; go_quiet ((go_at_call 57; exact quiet_add_same (l00In_eq _ _ _ _ _ (by assumption)))); go_wp2)
          go_roundw
          case rel => exact ⟨k + 1, by omega, by go_num, riseTill_succ he (by have hz := Hz.out; rw [Hk0.out] at hz ⊢; exact riseAt_0 hz hin), (by first | exact ⟨_, rfl⟩ | exact drew2 _ _ _ | exact ⟨0, rfl⟩)⟩
          case measure => simp [intOf]; omega
      · obtain ⟨b', off', p, hA, hblt', hp, hcp⟩ := h.at_ (show k - 1 < n by omega)
        injection hA with hA
        injection hA with hA1 hA2
        subst hA1 hA2
        have Hp := Lib.hid hp
        clear hp
        have kp : decide (0 < k) = true := by simp; omega
        have kq : (1 : Int) ≤ (k : Int) := by omega
        have k3 : (0 : Int) ≤ (k : Int) - 1 := by omega
        have k4 : (k : Int) - 1 < (n : Int) := by omega
        have k5 : ((k : Int) - 1).toNat = k - 1 := by omega
        have hs : ∀ q, inB z lo hi = true → decide (p < z) = q → riseAt zs lo hi k = q := fun q hin hq => by
          have hp := Hp.out
          have hz := Hz.out
          obtain ⟨m, rfl⟩ : ∃ m, k = m + 1 := ⟨k - 1, by omega⟩
          rw [Nat.add_sub_cancel] at hp
          rw [riseAt_s hp hz hin]
          exact hq
        have Hs := Lib.hid hs
        clear hs
        cases hin : inB z lo hi
        · (go_wp2; go_quiet ((go_at_call 57; exact quiet_add_same (l00In_eq _ _ _ _ _ (by assumption)))); go_wp2)
          go_ret
          exact ⟨ret_bool (risesB_false (by rw [HL.out]; exact hlt) (riseAt_out Hz.out hin)).symm, (by first | exact ⟨_, rfl⟩ | exact drew2 _ _ _ | exact ⟨0, rfl⟩)⟩
        · by_cases hpz : p < z
          · (go_wp2; go_quiet ((go_at_call 57; exact quiet_add_same (l00In_eq _ _ _ _ _ (by assumption)))); go_wp2)
            go_roundw
            case rel => exact ⟨k + 1, by omega, by go_num, riseTill_succ he (Hs.out true hin (by simpa using hpz)), (by first | exact ⟨_, rfl⟩ | exact drew2 _ _ _ | exact ⟨0, rfl⟩)⟩
            case measure => simp [intOf]; omega
          · (go_wp2; go_quiet ((go_at_call 57; exact quiet_add_same (l00In_eq _ _ _ _ _ (by assumption)))); go_wp2)
            go_ret
            exact ⟨ret_bool (risesB_false (by rw [HL.out]; exact hlt) (Hs.out false hin (by simpa using hpz))).symm, (by first | exact ⟨_, rfl⟩ | exact drew2 _ _ _ | exact ⟨0, rfl⟩)⟩
    · obtain rfl : k = n := by omega
      go_wp2
      go_ret
      exact ⟨ret_bool (risesB_true HL.out he).symm, (by first | exact ⟨_, rfl⟩ | exact drew2 _ _ _ | exact ⟨0, rfl⟩)⟩
end Go.Proofs.Ytniifpfhfpcmcaa
