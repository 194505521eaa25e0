/- Contracts about tensions: the tension after steps, the least tension. -/
import Derived.Test.YtgjjmgneekjapaaBase
namespace Go.Proofs.Ytgjjmgneekjapaa
open Go.RowKit
set_option linter.unusedVariables false
set_option linter.unusedSimpArgs false

/-- The tension t after k steps, each of which takes l thousandths. -/
def tens (t l : Int) : Nat → Int
  | 0 => t
  | k + 1 => tens t l k * (1000 - l) / 1000

theorem mul_bd {t c : Int} (h0 : 0 ≤ t) (h1 : t ≤ 100) (c0 : 0 ≤ c) (c1 : c ≤ 1000) : 0 ≤ t * c ∧ t * c ≤ t * 1000 := by
  exact ⟨Int.mul_nonneg h0 c0, Int.mul_le_mul_of_nonneg_left c1 h0⟩
theorem tens_bd (t l : Int) (h0 : 0 ≤ t) (h1 : t ≤ 100) (c0 : 0 ≤ l) (c1 : l ≤ 1000) : ∀ k, 0 ≤ tens t l k ∧ tens t l k ≤ t
  | 0 => ⟨h0, Int.le_refl _⟩
  | k + 1 => by
    obtain ⟨a, b⟩ := tens_bd t l h0 h1 c0 c1 k
    obtain ⟨p, q⟩ := mul_bd a (by omega) (show (0 : Int) ≤ 1000 - l by omega) (by omega)
    unfold tens
    constructor <;> omega

theorem l15After_any (t s l : Int) (w : World) (h0 : 0 ≤ t) (h1 : t ≤ 100) (s0 : 0 ≤ s) (s1 : s ≤ 6) (c0 : 0 ≤ l) (c1 : l ≤ 1000) :
    Calls Try.prog 46 #[.int .i64 t, .int .i64 s, .int .i64 l] w fun e w' => e = .returned (.int .i64 (tens t l s.toNat)) ∧ w = w' := by
  obtain ⟨n, rfl⟩ := Int.eq_ofNat_of_zero_le s0
  rw [Int.toNat_natCast]
  go_enter Try.func46, Try.ntmps46
  go_wp2
  go_loop [0, 7] (fun u i => ∃ k : Nat, k ≤ n ∧ i = .int .i64 k ∧ u = .int .i64 (tens t l k)) (fun _ i => n - (intOf i).toNat)
  case atStart => exact ⟨0, Nat.zero_le _, rfl, rfl⟩
  case round =>
    obtain ⟨k, hk, rfl, rfl⟩ := hrel
    obtain ⟨a, b⟩ := tens_bd t l h0 h1 c0 c1 k
    obtain ⟨p, q⟩ := mul_bd a (by omega) (show (0 : Int) ≤ 1000 - l by omega) (by omega)
    by_cases hlt : k < n
    · go_wp2
      go_round
      case rel => exact ⟨k + 1, by omega, by go_num, rfl⟩
      case measure => simp [intOf]; omega
    · go_wp2
      go_ret
      obtain rfl : k = n := by omega
      exact ⟨rfl, rfl⟩

theorem tensionAfter_any (t s l : Int) (w : World) (h0 : 0 ≤ t) (h1 : t ≤ 100) (s0 : 0 ≤ s) (s1 : s ≤ 6) (c0 : 0 ≤ l) (c1 : l ≤ 1000) :
    Calls Try.prog 47 #[.int .i64 t, .int .i64 s, .int .i64 l] w fun e w' => e = .returned (.int .i64 (tens t l s.toNat)) ∧ w = w' := by
  obtain ⟨n, rfl⟩ := Int.eq_ofNat_of_zero_le s0
  rw [Int.toNat_natCast]
  go_enter Try.func47, Try.ntmps47
  go_wp2
  go_loop [0, 8] (fun u i => ∃ k : Nat, k ≤ n ∧ i = .int .i64 k ∧ u = .int .i64 (tens t l k)) (fun _ i => n - (intOf i).toNat)
  case atStart => exact ⟨0, Nat.zero_le _, rfl, rfl⟩
  case round =>
    obtain ⟨k, hk, rfl, rfl⟩ := hrel
    obtain ⟨a, b⟩ := tens_bd t l h0 h1 c0 c1 k
    obtain ⟨p, q⟩ := mul_bd a (by omega) (show (0 : Int) ≤ 1000 - l by omega) (by omega)
    by_cases hlt : k < n
    · go_wp2
      go_round
      case rel => exact ⟨k + 1, by omega, by go_num, rfl⟩
      case measure => simp [intOf]; omega
    · go_wp2
      go_ret
      obtain rfl : k = n := by omega
      exact ⟨rfl, rfl⟩

def tensV (t s l : Int) : Int × Int := if inB t 0 100 && inB s 0 6 && inB l 0 1000 then (tens t l s.toNat, 0) else (0, 2)

theorem l15Tension_t (s l : Int) (w : World) (h1 : inB s 0 6 = true) (h2 : inB l 0 1000 = true) : Calls Try.prog 44 #[.int .i64 s, .int .i64 l] w fun e w' => e = .returned (.int .i64 0) ∧ w = w' := by
  go_enter Try.func44, Try.ntmps44
  go_wp2_with (go_at_call 45; refine (l00In_any _ _ _ _).mono ?_; rintro e w' ⟨rfl, rfl⟩)
  go_ret
  exact ⟨rfl, rfl⟩
theorem l15Tension_f (s l : Int) (w : World) (h : (inB s 0 6 && inB l 0 1000) = false) : Calls Try.prog 44 #[.int .i64 s, .int .i64 l] w fun e w' => e = .returned (.int .i64 2) ∧ w = w' := by
  cases h1 : inB s 0 6
  · clear h
    go_enter Try.func44, Try.ntmps44
    go_wp2_with (go_at_call 45; refine (l00In_any _ _ _ _).mono ?_; rintro e w' ⟨rfl, rfl⟩)
    go_ret
    exact ⟨rfl, rfl⟩
  · have h2 : inB l 0 1000 = false := by simpa [h1] using h
    clear h
    go_enter Try.func44, Try.ntmps44
    go_wp2_with (go_at_call 45; refine (l00In_any _ _ _ _).mono ?_; rintro e w' ⟨rfl, rfl⟩)
    go_ret
    exact ⟨rfl, rfl⟩

theorem specTensionAfter_any (t s l : Int) (w : World) : Calls Try.prog 18 #[.int .i64 t, .int .i64 s, .int .i64 l] w fun e w' => e = .returned (.tuple #[.int .i64 (tensV t s l).1, .int .i64 (tensV t s l).2]) ∧ w = w' := by
  cases h : (inB s 0 6 && inB l 0 1000)
  · have hv : tensV t s l = (0, 2) := by unfold tensV; rw [Bool.and_assoc, h]; simp
    rw [hv]
    clear hv
    go_enter Try.func18, Try.ntmps18
    go_wp2_with (go_at_call 44; refine (l15Tension_f _ _ _ h).mono ?_; rintro e w' ⟨rfl, rfl⟩)
    go_ret2
    exact ⟨rfl, rfl⟩
  have h1 : inB s 0 6 = true := by simp at h; exact h.1
  have h2 : inB l 0 1000 = true := by simp at h; exact h.2
  clear h
  cases h3 : inB t 0 100
  · have hv : tensV t s l = (0, 2) := by unfold tensV; simp [h3]
    rw [hv]
    clear hv
    go_enter Try.func18, Try.ntmps18
    go_wp2_with (first | (go_at_call 44; refine (l15Tension_t _ _ _ h1 h2).mono ?_; rintro e w' ⟨rfl, rfl⟩) | (go_at_call 45; refine (l00In_any _ _ _ _).mono ?_; rintro e w' ⟨rfl, rfl⟩))
    go_ret2
    exact ⟨rfl, rfl⟩
  · have hv : tensV t s l = (tens t l s.toNat, 0) := by unfold tensV; simp [h1, h2, h3]
    rw [hv]
    clear hv
    have i1 := (inB_iff _ _ _).1 h1
    have i2 := (inB_iff _ _ _).1 h2
    have i3 := (inB_iff _ _ _).1 h3
    go_enter Try.func18, Try.ntmps18
    go_wp2_with (first | (go_at_call 44; refine (l15Tension_t _ _ _ h1 h2).mono ?_; rintro e w' ⟨rfl, rfl⟩) | (go_at_call 45; refine (l00In_any _ _ _ _).mono ?_; rintro e w' ⟨rfl, rfl⟩) | (go_at_call 46; refine (l15After_any _ _ _ _ i3.1 i3.2 i1.1 i1.2 i2.1 i2.2).mono ?_; rintro e w' ⟨rfl, rfl⟩))
    go_ret2
    exact ⟨rfl, rfl⟩

theorem implTensionAfter_any (t s l : Int) (w : World) : Calls Try.prog 19 #[.int .i64 t, .int .i64 s, .int .i64 l] w fun e w' => e = .returned (.tuple #[.int .i64 (tensV t s l).1, .int .i64 (tensV t s l).2]) ∧ w = w' := by
  by_cases h : inB t 0 100 = true ∧ inB s 0 6 = true ∧ inB l 0 1000 = true
  · obtain ⟨h3, h1, h2⟩ := h
    have hv : tensV t s l = (tens t l s.toNat, 0) := by unfold tensV; simp [h1, h2, h3]
    rw [hv]
    clear hv
    have i1 := (inB_iff _ _ _).1 h1
    have i2 := (inB_iff _ _ _).1 h2
    have i3 := (inB_iff _ _ _).1 h3
    go_enter Try.func19, Try.ntmps19
    go_wp2_with (first | (go_at_call 43; refine (within_any _ _ _ _).mono ?_; rintro e w' ⟨rfl, rfl⟩) | (go_at_call 47; refine (tensionAfter_any _ _ _ _ i3.1 i3.2 i1.1 i1.2 i2.1 i2.2).mono ?_; rintro e w' ⟨rfl, rfl⟩))
    go_ret2
    exact ⟨rfl, rfl⟩
  · have hv : tensV t s l = (0, 2) := by unfold tensV; rw [if_neg (by simpa [and_assoc] using h)]
    rw [hv]
    clear hv
    cases h3 : inB t 0 100
    · clear h
      go_enter Try.func19, Try.ntmps19
      go_wp2_with (go_at_call 43; refine (within_any _ _ _ _).mono ?_; rintro e w' ⟨rfl, rfl⟩)
      go_ret2
      exact ⟨rfl, rfl⟩
    cases h1 : inB s 0 6
    · clear h
      go_enter Try.func19, Try.ntmps19
      go_wp2_with (go_at_call 43; refine (within_any _ _ _ _).mono ?_; rintro e w' ⟨rfl, rfl⟩)
      go_ret2
      exact ⟨rfl, rfl⟩
    · have h2 : inB l 0 1000 = false := by simpa [h1, h3] using h
      clear h
      go_enter Try.func19, Try.ntmps19
      go_wp2_with (go_at_call 43; refine (within_any _ _ _ _).mono ?_; rintro e w' ⟨rfl, rfl⟩)
      go_ret2
      exact ⟨rfl, rfl⟩

theorem law_FnExactTensionAfter (t : Int) (_ : (Lit.int .i64 t).wf = true) (s : Int) (_ : (Lit.int .i64 s).wf = true) (l : Int) (_ : (Lit.int .i64 l).wf = true) (w : World) :
    Calls Try.prog 5 #[.int .i64 t, .int .i64 s, .int .i64 l] w fun e w' => e = .returned (.bool true) ∧ Below w.heap.size w w' := by
  go_enter Try.func5, Try.ntmps5
  go_wp2_with fail
  refine (specTensionAfter_any _ _ _ _).mono ?_
  rintro e w1 ⟨rfl, rfl⟩
  go_wp2_with fail
  refine (implTensionAfter_any _ _ _ _).mono ?_
  rintro e w1 ⟨rfl, rfl⟩
  go_wp2
  go_ret
  exact ⟨rfl, Below.refl _ _⟩

theorem find_range_some {p : Nat → Bool} {n k : Nat} (hk : k < n) (hp : p k = true) (hb : ∀ j, j < k → p j = false) : (List.range n).find? p = some k := by
  rw [List.find?_range_eq_some]
  exact ⟨hp, by simpa using hk, fun j hj => by simpa using hb j hj⟩
theorem find_range_none {p : Nat → Bool} {n : Nat} (hb : ∀ j, j < n → p j = false) : (List.range n).find? p = none := by
  rw [List.find?_eq_none]
  intro j hj
  simpa using hb j (by simpa using hj)

def leastK (s l h : Int) : Option Nat := (List.range 101).find? fun n => decide (h ≤ tens (n : Int) l s.toNat)
def leastV (s l h : Int) : Int × Int := if inB s 0 6 && inB l 0 1000 && inB h 0 100 then (match leastK s l h with | some n => ((n : Int), 0) | none => (0, 3)) else (0, 2)
theorem leastV_some {s l h : Int} {n : Nat} (h1 : inB s 0 6 = true) (h2 : inB l 0 1000 = true) (h3 : inB h 0 100 = true) (hn : leastK s l h = some n) : leastV s l h = ((n : Int), 0) := by unfold leastV; simp [h1, h2, h3, hn]
theorem leastV_none {s l h : Int} (h1 : inB s 0 6 = true) (h2 : inB l 0 1000 = true) (h3 : inB h 0 100 = true) (hn : leastK s l h = none) : leastV s l h = (0, 3) := by unfold leastV; simp [h1, h2, h3, hn]
theorem leastV_bad {s l h : Int} (hb : ¬ (inB s 0 6 = true ∧ inB l 0 1000 = true ∧ inB h 0 100 = true)) : leastV s l h = (0, 2) := by unfold leastV; rw [if_neg (by simpa [and_assoc] using hb)]

/-- None of the first k tensions holds. -/
def NoneTill (s l h : Int) (k : Nat) : Prop := ∀ j : Nat, j < k → ¬ h ≤ tens (j : Int) l s.toNat
theorem noneTill_0 (s l h : Int) : NoneTill s l h 0 := fun _ hj => absurd hj (by omega)
theorem noneTill_succ {s l h : Int} {k : Nat} (hk : NoneTill s l h k) (hn : ¬ h ≤ tens (k : Int) l s.toNat) : NoneTill s l h (k + 1) := fun j hj => by
  rcases Nat.lt_succ_iff_lt_or_eq.1 hj with hj | rfl
  · exact hk j hj
  · exact hn
theorem leastK_some {s l h : Int} {k : Nat} (hk : NoneTill s l h k) (hlt : k < 101) (hp : h ≤ tens (k : Int) l s.toNat) : leastK s l h = some k :=
  find_range_some hlt (by simpa using hp) fun j hj => by simpa using hk j hj
theorem leastK_none {s l h : Int} (hk : NoneTill s l h 101) : leastK s l h = none :=
  find_range_none fun j hj => by simpa using hk j hj

theorem specLeastTension_any (s l h : Int) (w : World) : Calls Try.prog 20 #[.int .i64 s, .int .i64 l, .int .i64 h] w fun e w' => e = .returned (.tuple #[.int .i64 (leastV s l h).1, .int .i64 (leastV s l h).2]) ∧ w = w' := by
  cases hh : (inB s 0 6 && inB l 0 1000)
  · have hv : leastV s l h = (0, 2) := leastV_bad (fun ⟨a, b, _⟩ => by simp [a, b] at hh)
    rw [hv]
    clear hv
    go_enter Try.func20, Try.ntmps20
    go_wp2_with (go_at_call 44; refine (l15Tension_f _ _ _ hh).mono ?_; rintro e w' ⟨rfl, rfl⟩)
    go_ret2
    exact ⟨rfl, rfl⟩
  have h1 : inB s 0 6 = true := by simp at hh; exact hh.1
  have h2 : inB l 0 1000 = true := by simp at hh; exact hh.2
  clear hh
  cases h3 : inB h 0 100
  · have hv : leastV s l h = (0, 2) := leastV_bad (fun ⟨_, _, c⟩ => by simp [h3] at c)
    rw [hv]
    clear hv
    go_enter Try.func20, Try.ntmps20
    go_wp2_with (first | (go_at_call 44; refine (l15Tension_t _ _ _ h1 h2).mono ?_; rintro e w' ⟨rfl, rfl⟩) | (go_at_call 45; refine (l00In_any _ _ _ _).mono ?_; rintro e w' ⟨rfl, rfl⟩))
    go_ret2
    exact ⟨rfl, rfl⟩
  · have i1 := (inB_iff _ _ _).1 h1
    have i2 := (inB_iff _ _ _).1 h2
    go_enter Try.func20, Try.ntmps20
    go_wp2_with (first | (go_at_call 44; refine (l15Tension_t _ _ _ h1 h2).mono ?_; rintro e w' ⟨rfl, rfl⟩) | (go_at_call 45; refine (l00In_any _ _ _ _).mono ?_; rintro e w' ⟨rfl, rfl⟩))
    go_loop [9] (fun i => ∃ k : Nat, k ≤ 101 ∧ i = .int .i64 k ∧ NoneTill s l h k) (fun i => 101 - (intOf i).toNat)
    case atStart => exact ⟨0, Nat.zero_le _, rfl, noneTill_0 _ _ _⟩
    case round =>
      obtain ⟨k, hk, rfl, hn⟩ := hrel
      by_cases hlt : k < 101
      · by_cases hp : h ≤ tens (k : Int) l s.toNat
        · go_wp2_with (go_at_call 46; refine (l15After_any _ _ _ _ (by omega) (by omega) i1.1 i1.2 i2.1 i2.2).mono ?_; rintro e w' ⟨rfl, rfl⟩)
          go_ret2
          rw [leastV_some h1 h2 h3 (leastK_some hn hlt hp)]
          exact ⟨rfl, rfl⟩
        · go_wp2_with (go_at_call 46; refine (l15After_any _ _ _ _ (by omega) (by omega) i1.1 i1.2 i2.1 i2.2).mono ?_; rintro e w' ⟨rfl, rfl⟩)
          go_round
          case rel => exact ⟨k + 1, by omega, by go_num, noneTill_succ hn (by omega)⟩
          case measure => simp [intOf]; omega
      · obtain rfl : k = 101 := by omega
        go_wp2
        go_ret2
        rw [leastV_none h1 h2 h3 (leastK_none hn)]
        exact ⟨rfl, rfl⟩

theorem implLeastTension_any (s l h : Int) (w : World) : Calls Try.prog 21 #[.int .i64 s, .int .i64 l, .int .i64 h] w fun e w' => e = .returned (.tuple #[.int .i64 (leastV s l h).1, .int .i64 (leastV s l h).2]) ∧ w = w' := by
  by_cases hh : inB s 0 6 = true ∧ inB l 0 1000 = true ∧ inB h 0 100 = true
  · obtain ⟨h1, h2, h3⟩ := hh
    have i1 := (inB_iff _ _ _).1 h1
    have i2 := (inB_iff _ _ _).1 h2
    go_enter Try.func21, Try.ntmps21
    go_wp2_with (go_at_call 43; refine (within_any _ _ _ _).mono ?_; rintro e w' ⟨rfl, rfl⟩)
    go_loop [22] (fun i => ∃ k : Nat, k ≤ 101 ∧ i = .int .i64 k ∧ NoneTill s l h k) (fun i => 101 - (intOf i).toNat)
    case atStart => exact ⟨0, Nat.zero_le _, rfl, noneTill_0 _ _ _⟩
    case round =>
      obtain ⟨k, hk, rfl, hn⟩ := hrel
      by_cases hlt : k < 101
      · by_cases hp : h ≤ tens (k : Int) l s.toNat
        · go_wp2_with (go_at_call 47; refine (tensionAfter_any _ _ _ _ (by omega) (by omega) i1.1 i1.2 i2.1 i2.2).mono ?_; rintro e w' ⟨rfl, rfl⟩)
          go_ret2
          rw [leastV_some h1 h2 h3 (leastK_some hn hlt hp)]
          exact ⟨rfl, rfl⟩
        · go_wp2_with (go_at_call 47; refine (tensionAfter_any _ _ _ _ (by omega) (by omega) i1.1 i1.2 i2.1 i2.2).mono ?_; rintro e w' ⟨rfl, rfl⟩)
          go_round
          case rel => exact ⟨k + 1, by omega, by go_num, noneTill_succ hn (by omega)⟩
          case measure => simp [intOf]; omega
      · obtain rfl : k = 101 := by omega
        go_wp2
        go_ret2
        rw [leastV_none h1 h2 h3 (leastK_none hn)]
        exact ⟨rfl, rfl⟩
  · have hv : leastV s l h = (0, 2) := leastV_bad hh
    rw [hv]
    clear hv
    cases h1 : inB s 0 6
    · clear hh
      go_enter Try.func21, Try.ntmps21
      go_wp2_with (go_at_call 43; refine (within_any _ _ _ _).mono ?_; rintro e w' ⟨rfl, rfl⟩)
      go_ret2
      exact ⟨rfl, rfl⟩
    cases h2 : inB l 0 1000
    · clear hh
      go_enter Try.func21, Try.ntmps21
      go_wp2_with (go_at_call 43; refine (within_any _ _ _ _).mono ?_; rintro e w' ⟨rfl, rfl⟩)
      go_ret2
      exact ⟨rfl, rfl⟩
    · have h3 : inB h 0 100 = false := by simpa [h1, h2] using hh
      clear hh
      go_enter Try.func21, Try.ntmps21
      go_wp2_with (go_at_call 43; refine (within_any _ _ _ _).mono ?_; rintro e w' ⟨rfl, rfl⟩)
      go_ret2
      exact ⟨rfl, rfl⟩

theorem law_FnExactLeastTension (s : Int) (_ : (Lit.int .i64 s).wf = true) (l : Int) (_ : (Lit.int .i64 l).wf = true) (h : Int) (_ : (Lit.int .i64 h).wf = true) (w : World) :
    Calls Try.prog 6 #[.int .i64 s, .int .i64 l, .int .i64 h] w fun e w' => e = .returned (.bool true) ∧ Below w.heap.size w w' := by
  go_enter Try.func6, Try.ntmps6
  go_wp2_with fail
  refine (specLeastTension_any _ _ _ _).mono ?_
  rintro e w1 ⟨rfl, rfl⟩
  go_wp2_with fail
  refine (implLeastTension_any _ _ _ _).mono ?_
  rintro e w1 ⟨rfl, rfl⟩
  go_wp2
  go_ret
  exact ⟨rfl, Below.refl _ _⟩
end Go.Proofs.Ytgjjmgneekjapaa
