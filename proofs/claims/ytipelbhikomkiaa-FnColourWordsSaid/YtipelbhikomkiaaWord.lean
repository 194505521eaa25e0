/- Contracts about words: validity of a word. -/
import Derived.Test.YtipelbhikomkiaaBase
namespace Go.Proofs.Ytipelbhikomkiaa
open Go.RowKit
set_option linter.unusedVariables false
set_option linter.unusedSimpArgs false

def isCol (c : UInt8) : Bool := inB (c.toNat : Int) 97 122
/-- A word: 1 to 12 small letters. -/
def okWord (s : ByteArray) : Bool := s.data.toList.all isCol && (decide (1 ≤ s.size) && decide (s.size ≤ 12))

def AllTill (s : ByteArray) (k : Nat) : Prop := ∀ (j : Nat) (h : j < s.size), j < k → inB (s[j].toNat : Int) 97 122 = true
theorem allTill_0 (s : ByteArray) : AllTill s 0 := fun _ _ h => absurd h (by omega)
theorem allTill_succ {s : ByteArray} {k : Nat} (hk : k < s.size) (h : AllTill s k) (hc : inB (s[k].toNat : Int) 97 122 = true) : AllTill s (k + 1) := fun j hj hlt => by
  rcases Nat.lt_succ_iff_lt_or_eq.1 hlt with h1 | rfl
  · exact h j hj h1
  · exact hc
theorem all_of_till {s : ByteArray} (h : AllTill s s.size) : s.data.toList.all isCol = true := by
  rw [List.all_eq_true]
  intro c hc
  obtain ⟨j, hj, rfl⟩ := List.mem_iff_getElem.1 hc
  exact h j (by simpa using hj) (by simpa using hj)
theorem not_all_of {s : ByteArray} {k : Nat} (hk : k < s.size) (hc : inB (s[k].toNat : Int) 97 122 = false) : s.data.toList.all isCol = false := by
  rw [List.all_eq_false]
  exact ⟨s[k], by rw [List.mem_iff_getElem]; exact ⟨k, by simpa using hk, rfl⟩, by simpa [isCol] using hc⟩
theorem okWord_bad {s : ByteArray} {k : Nat} (hk : k < s.size) (hc : inB (s[k].toNat : Int) 97 122 = false) : okWord s = false := by
  unfold okWord; rw [not_all_of hk hc]; rfl
theorem okWord_len {s : ByteArray} (h : AllTill s s.size) : okWord s = (decide (1 ≤ s.size) && decide (s.size ≤ 12)) := by
  unfold okWord; rw [all_of_till h]; rfl
theorem okWord_iff {s : ByteArray} : okWord s = true ↔ s.data.toList.all isCol = true ∧ 1 ≤ s.size ∧ s.size ≤ 12 := by
  simp [okWord]

theorem isColour_any (c : Int) (w : World) : Calls Try.prog 45 #[.int .u8 c] w fun e w' => e = .returned (.bool (inB c 97 122)) ∧ w = w' := by
  by_cases h1 : 97 ≤ c
  · by_cases h2 : c ≤ 122
    · go_enter Try.func45, Try.ntmps45
      go_wp2
      go_ret
      exact ⟨by simp [inB, h1, h2], rfl⟩
    · go_enter Try.func45, Try.ntmps45
      go_wp2
      go_ret
      exact ⟨by simp [inB]; omega, rfl⟩
  · go_enter Try.func45, Try.ntmps45
    go_wp2
    go_ret
    exact ⟨by simp [inB]; omega, rfl⟩

theorem validWord_any (s : ByteArray) (w : World) (hs : s.size ≤ maxLen) : Calls Try.prog 15 #[.string s] w fun e w' => e = .returned (.bool (okWord s)) ∧ w = w' := by
  unfold maxLen at hs
  go_enter Try.func15, Try.ntmps15
  go_wp2
  go_loop [6] (fun i => ∃ k : Nat, k ≤ s.size ∧ i = .int .i64 k ∧ AllTill s k) (fun i => s.size - (intOf i).toNat)
  case atStart => exact ⟨0, Nat.zero_le _, rfl, allTill_0 s⟩
  case round =>
    obtain ⟨k, hk, rfl, ha⟩ := hrel
    by_cases hlt : k < s.size
    · cases hc : inB (s[k].toNat : Int) 97 122
      · go_wp2_with (go_at_call 45; refine (isColour_any _ _).mono ?_; rintro e w' ⟨rfl, rfl⟩)
        go_ret
        exact ⟨ret_bool (okWord_bad hlt hc).symm, rfl⟩
      · go_wp2_with (go_at_call 45; refine (isColour_any _ _).mono ?_; rintro e w' ⟨rfl, rfl⟩)
        go_round
        case rel => exact ⟨k + 1, by omega, by go_num, allTill_succ hlt ha hc⟩
        case measure => simp [intOf]; omega
    · obtain rfl : k = s.size := by omega
      by_cases h1 : 1 ≤ s.size
      · by_cases h2 : s.size ≤ 12
        · go_wp2
          go_ret
          exact ⟨ret_bool (by rw [okWord_len ha, Bool.eq_iff_iff]; simp; omega), rfl⟩
        · go_wp2
          go_ret
          exact ⟨ret_bool (by rw [okWord_len ha, Bool.eq_iff_iff]; simp; omega), rfl⟩
      · go_wp2
        go_ret
        exact ⟨ret_bool (by rw [okWord_len ha, Bool.eq_iff_iff]; simp; omega), rfl⟩

theorem l12Ok_any (s : ByteArray) (w : World) (hs : s.size ≤ maxLen) : Calls Try.prog 44 #[.string s] w fun e w' => e = .returned (.bool (okWord s)) ∧ w = w' := by
  unfold maxLen at hs
  go_enter Try.func44, Try.ntmps44
  go_wp2
  go_loop [3] (fun i => ∃ k : Nat, k ≤ s.size ∧ i = .int .i64 k ∧ AllTill s k) (fun i => s.size - (intOf i).toNat)
  case atStart => exact ⟨0, Nat.zero_le _, rfl, allTill_0 s⟩
  case round =>
    obtain ⟨k, hk, rfl, ha⟩ := hrel
    by_cases hlt : k < s.size
    · by_cases c1 : (s[k].toNat : Int) < 97
      · go_wp2
        go_ret
        exact ⟨ret_bool (okWord_bad hlt (by rw [inB_not]; omega)).symm, rfl⟩
      by_cases c2 : 122 < (s[k].toNat : Int)
      · go_wp2
        go_ret
        exact ⟨ret_bool (okWord_bad hlt (by rw [inB_not]; omega)).symm, rfl⟩
      · go_wp2
        go_round
        case rel => exact ⟨k + 1, by omega, by go_num, allTill_succ hlt ha (by rw [inB_iff]; omega)⟩
        case measure => simp [intOf]; omega
    · obtain rfl : k = s.size := by omega
      go_wp2_with (go_at_call 50; refine (l00In_any _ _ _ _).mono ?_; rintro e w' ⟨rfl, rfl⟩)
      go_ret
      exact ⟨ret_bool (by rw [okWord_len ha, Bool.eq_iff_iff, inB_iff]; simp; omega), rfl⟩

theorem specValidWord_any (s : ByteArray) (w : World) (hs : s.size ≤ maxLen) : Calls Try.prog 14 #[.string s] w fun e w' => e = .returned (.bool (okWord s)) ∧ w = w' := by
  go_enter Try.func14, Try.ntmps14
  go_wp2_with (go_at_call 44; refine (l12Ok_any _ _ hs).mono ?_; rintro e w' ⟨rfl, rfl⟩)
  go_ret
  exact ⟨rfl, rfl⟩

theorem law_FnExactValidWord (s : ByteArray) (hs : s.size ≤ maxLen) (w : World) : Calls Try.prog 3 #[.string s] w fun e w' => e = .returned (.bool true) ∧ Below w.heap.size w w' := by
  by_cases h : 1048576 < s.size
  · have h' : (1048576 : Int) < (s.size : Int) := by omega
    go_enter Try.func3, Try.ntmps3
    go_wp2
    go_ret
    exact ⟨rfl, Below.refl _ _⟩
  · have h' : ¬ (1048576 : Int) < (s.size : Int) := by omega
    go_enter Try.func3, Try.ntmps3
    go_wp2_with (first | (go_at_call 14; refine (specValidWord_any _ _ hs).mono ?_; rintro e w' ⟨rfl, rfl⟩) | (go_at_call 15; refine (validWord_any _ _ hs).mono ?_; rintro e w' ⟨rfl, rfl⟩))
    go_ret
    exact ⟨rfl, Below.refl _ _⟩
end Go.Proofs.Ytipelbhikomkiaa
