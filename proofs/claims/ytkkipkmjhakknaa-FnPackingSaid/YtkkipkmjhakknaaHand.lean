/- Contracts: eachWithin, l14Places. -/
import Derived.Test.YtkkipkmjhakknaaGood3
namespace Go.Proofs.Ytkkipkmjhakknaa
open Go.RowKit
set_option linter.unusedVariables false
set_option linter.unusedSimpArgs false

def allIn (zs : List Int) (lo hi : Int) : Bool := zs.all fun z => inB z lo hi
def AllTill (zs : List Int) (lo hi : Int) (k : Nat) : Prop := ∀ (j : Nat) (z : Int), j < k → zs[j]? = some z → inB z lo hi = true
theorem allTill_succ {zs : List Int} {lo hi z : Int} {k : Nat} (h : AllTill zs lo hi k) (hz : zs[k]? = some z) (e : inB z lo hi = true) : AllTill zs lo hi (k + 1) := fun j y hj hy => by
  rcases Nat.lt_succ_iff_lt_or_eq.1 hj with h1 | rfl
  · exact h j y h1 hy
  · rw [hz] at hy; injection hy with hy; rw [← hy]; exact e
theorem allIn_yes {zs : List Int} {lo hi : Int} {n : Nat} (hl : zs.length = n) (h : AllTill zs lo hi n) : allIn zs lo hi = true := by
  unfold allIn
  rw [List.all_eq_true]
  intro z hz
  obtain ⟨j, hj, e⟩ := List.mem_iff_getElem.1 hz
  exact h j z (by omega) (by rw [List.getElem?_eq_getElem hj, e])
theorem allIn_no {zs : List Int} {lo hi z : Int} {k : Nat} (hz : zs[k]? = some z) (e : inB z lo hi = false) : allIn zs lo hi = false := by
  unfold allIn
  rw [List.all_eq_false]
  exact ⟨z, List.mem_of_getElem? hz, by simp [e]⟩
theorem allIn_at {zs : List Int} {lo hi z : Int} {k : Nat} (h : allIn zs lo hi = true) (hz : zs[k]? = some z) : lo ≤ z ∧ z ≤ hi := by
  unfold allIn at h
  rw [List.all_eq_true] at h
  exact (inB_iff _ _ _).1 (h z (List.mem_of_getElem? hz))

theorem eachWithin_eq (A : Option Addr) (n c : Nat) (zs : List Int) (lo hi : Int) (v : Bool) (w : World) (h : Ints w A n zs) (hn : n ≤ 1048576) (hv : allIn zs lo hi = v) : Calls Try.prog 52 #[.slice A n c, .int .i64 n, .int .i64 lo, .int .i64 hi] w fun e w' => e = .returned (.bool v) ∧ w' = w := by
  subst hv
  have HL := Lib.hid h.1
  go_enter Try.func52, Try.ntmps52
  go_wp2
  go_loop [13] (fun i => ∃ k : Nat, k ≤ n ∧ i = .int .i64 k ∧ AllTill zs lo hi k) (fun i => n - (intOf i).toNat)
  case atStart => exact ⟨0, Nat.zero_le _, rfl, fun _ _ h => absurd h (by omega)⟩
  case round =>
    obtain ⟨k, hk, rfl, he⟩ := hrel
    by_cases hlt : k < n
    · obtain ⟨b, off, y, rfl, hblt, hy, hcy⟩ := h.at_ hlt
      have Hy := Lib.hid hy
      clear hy
      cases g : inB y lo hi
      · go_wp2_with (go_at_call 61; refine (within_eq _ _ _ _ _ g).mono ?_; rintro e w' ⟨rfl, rfl⟩)
        go_ret
        exact ⟨ret_bool (allIn_no Hy.out g).symm, rfl⟩
      · go_wp2_with (go_at_call 61; refine (within_eq _ _ _ _ _ g).mono ?_; rintro e w' ⟨rfl, rfl⟩)
        go_round
        case rel => exact ⟨k + 1, by omega, by go_num, allTill_succ he Hy.out g⟩
        case measure => simp [intOf]; omega
    · obtain rfl : k = n := by omega
      go_wp2
      go_ret
      exact ⟨ret_bool (by rw [allIn_yes HL.out he]), rfl⟩
def placesB (zs : List Int) (m : Int) : Bool := allIn zs 0 1000 && decide ((zs.length : Int) ≤ m)
theorem l14Place_eq (z : Int) (v : Bool) (w : World) (h : inB z 0 1000 = v) : Calls Try.prog 71 #[.int .i64 z] w fun e w' => e = .returned (.bool v) ∧ w = w' := by
  subst h; exact l14Place_any z w
theorem l14Places_eq (A : Option Addr) (n c : Nat) (zs : List Int) (m : Int) (v : Bool) (w : World) (h : Ints w A n zs) (hn : n ≤ 1048576) (hv : placesB zs m = v) : Calls Try.prog 76 #[.slice A n c, .int .i64 m] w fun e w' => e = .returned (.bool v) ∧ w' = w := by
  subst hv
  have HL := Lib.hid h.1
  go_enter Try.func76, Try.ntmps76
  go_wp2
  go_loop [5] (fun i => ∃ k : Nat, k ≤ n ∧ i = .int .i64 k ∧ AllTill zs 0 1000 k) (fun i => n - (intOf i).toNat)
  case atStart => exact ⟨0, Nat.zero_le _, rfl, fun _ _ h => absurd h (by omega)⟩
  case round =>
    obtain ⟨k, hk, rfl, he⟩ := hrel
    by_cases hlt : k < n
    · obtain ⟨b, off, y, rfl, hblt, hy, hcy⟩ := h.at_ hlt
      have Hy := Lib.hid hy
      clear hy
      cases g : inB y 0 1000
      · go_wp2_with (go_at_call 71; refine (l14Place_eq _ _ _ g).mono ?_; rintro e w' ⟨rfl, rfl⟩)
        go_ret
        exact ⟨ret_bool (by unfold placesB; rw [allIn_no Hy.out g]; rfl), rfl⟩
      · go_wp2_with (go_at_call 71; refine (l14Place_eq _ _ _ g).mono ?_; rintro e w' ⟨rfl, rfl⟩)
        go_round
        case rel => exact ⟨k + 1, by omega, by go_num, allTill_succ he Hy.out g⟩
        case measure => simp [intOf]; omega
    · obtain rfl : k = n := by omega
      go_wp2
      go_ret
      exact ⟨ret_bool (by unfold placesB; rw [allIn_yes HL.out he, HL.out]; simp), rfl⟩
end Go.Proofs.Ytkkipkmjhakknaa
