/- Contracts: a2Has, a2Rises; plain facts for spirals. -/
import Derived.Test.YtipelbhikomkiaaDrw
import Derived.Test.YtipelbhikomkiaaStr2
namespace Go.Proofs.Ytipelbhikomkiaa
open Go.RowKit
set_option linter.unusedVariables false
set_option linter.unusedSimpArgs false

/-- Numbers that rise strictly, from 0 to less than s. -/
structure Ris (s : Nat) (zs : List Int) : Prop where
  pw : zs.Pairwise (· < ·)
  rng : ∀ z ∈ zs, 0 ≤ z ∧ z < s
theorem a2Has_eq (A : Option Addr) (n c : Nat) (gs : List Int) (z : Int) (v : Bool) (w : World) (h : Ints w A n gs) (hn : n ≤ 1048576) (hv : hasI gs z = v) : Calls Try.prog 42 #[.slice A n c, .int .i64 z] w fun e w' =>
    e = .returned (.bool v) ∧ w = w' := by
  subst hv
  have HL := Lib.hid h.1
  go_enter Try.func42, Try.ntmps42
  go_wp2
  go_loop [5] (fun i => ∃ k : Nat, k ≤ n ∧ i = .int .i64 k ∧ NoTill gs z k) (fun i => n - (intOf i).toNat)
  case atStart => exact ⟨0, Nat.zero_le _, rfl, fun _ h => absurd h (by omega)⟩
  case round =>
    obtain ⟨k, hk, rfl, he⟩ := hrel
    by_cases hlt : k < n
    · obtain ⟨b, off, y, rfl, hblt, hy, hcy⟩ := h.at_ hlt
      have Hy := Lib.hid hy
      clear hy
      by_cases e : y = z
      · have ht : (y == z) = true := by simpa using e
        have E := Lib.hid e
        clear e
        go_wp2
        go_ret
        exact ⟨ret_bool (hasI_yes Hy.out E.out).symm, rfl⟩
      · have ht : (y == z) = false := by simpa using e
        go_wp2
        go_round
        case rel => exact ⟨k + 1, by omega, by go_num, noTill_succ he Hy.out e⟩
        case measure => simp [intOf]; omega
    · obtain rfl : k = n := by omega
      go_wp2
      go_ret
      exact ⟨ret_bool (hasI_no HL.out he).symm, rfl⟩
theorem a2Rises_true (A : Option Addr) (n c s : Nat) (zs : List Int) (w : World) (h : Ints w A n zs) (hn : n ≤ 1048576) (hr : Ris s zs) (hs : s ≤ 1000) : Calls Try.prog 41 #[.slice A n c, .int .i64 s] w fun e w' =>
    e = .returned (.bool true) ∧ Below w.heap.size w w' := by
  have HR := Box0.mk hr
  have HL := Lib.hid h.1
  clear hr
  go_enter Try.func41, Try.ntmps41
  go_wp2
  go_loopw [5] (fun i wr => ∃ k : Nat, k ≤ n ∧ i = .int .i64 k ∧ Below w.heap.size w wr) (fun i _ => n - (intOf i).toNat)
  case atStart => exact ⟨0, Nat.zero_le _, rfl, Below.refl _ _⟩
  case round =>
    obtain ⟨k, hk, rfl, hB⟩ := hrel
    by_cases hlt : k < n
    · obtain ⟨b, off, z, rfl, hblt, hz, hcz⟩ := (h.keep hB).at_ hlt
      obtain ⟨z0, z1⟩ := HR.out.rng z (List.mem_of_getElem? hz)
      have t1 : decide (z < 0) = false := decide_eq_false (by omega)
      have t2 : decide ((s : Int) ≤ z) = false := decide_eq_false (by omega)
      have k0 : (0 : Int) ≤ (k : Int) := by omega
      have k1 : (k : Int) < (n : Int) := by omega
      by_cases hk0 : k = 0
      · have kp : decide (0 < k) = false := by simp; omega
        have kq : (k : Int) ≤ 0 := by omega
        have Hk0 := Lib.hid hk0
        clear hk0 hz
        go_wp2
        go_quiet (fail)
        go_wp2
        go_roundw
        case rel => exact ⟨k + 1, by omega, by go_num, below_drewN hB _⟩
        case measure => simp [intOf]; omega
      · obtain ⟨b', off', y, hA, hblt', hy, hcy⟩ := (h.keep hB).at_ (show k - 1 < n by omega)
        injection hA with hA
        injection hA with hA1 hA2
        subst hA1 hA2
        have hyz : y < z := by
          obtain ⟨i1, e1⟩ := List.getElem?_eq_some_iff.1 hy
          obtain ⟨i2, e2⟩ := List.getElem?_eq_some_iff.1 hz
          have := List.pairwise_iff_getElem.1 HR.out.pw (k - 1) k i1 i2 (by omega)
          omega
        have t3 : decide (z ≤ y) = false := decide_eq_false (by omega)
        have kp : decide (0 < k) = true := by simp; omega
        have kq : (1 : Int) ≤ (k : Int) := by omega
        have k3 : (0 : Int) ≤ (k : Int) - 1 := by omega
        have k4 : (k : Int) - 1 < (n : Int) := by omega
        have k5 : ((k : Int) - 1).toNat = k - 1 := by omega
        clear hz hy
        go_wp2
        go_quiet (fail)
        go_wp2
        go_roundw
        case rel => exact ⟨k + 1, by omega, by go_num, below_drewN hB _⟩
        case measure => simp [intOf]; omega
    · obtain rfl : k = n := by omega
      go_wp2
      go_ret
      exact ⟨rfl, hB⟩
theorem wd_code {s : ByteArray} (h : Wd s) {n : Int} (h3 : 3 ≤ n) (h60 : n ≤ 60) : wCode s n = 0 := wCode_0 (wd_ok h) ((inB_iff _ _ _).2 ⟨h3, h60⟩)
theorem spir_facts {s : ByteArray} {n : Nat} (h : Wd s) (n3 : 3 ≤ n) (n60 : n ≤ 60) : ∃ m : Int, spirV s n = (m, 0) ∧ 2 * m ≤ s.size ∧ -(s.size : Int) < 2 * m ∧ (m + n) % s.size = 0 ∧ 0 ≤ m + n := by
  have hc := wd_code h (n := (n : Int)) (by omega) (by omega)
  have l1 := h.l1
  refine ⟨if (s.size : Int) < 2 * mv s.size n then mv s.size n - s.size else mv s.size n, by simp [spirV, hc], ?_⟩
  generalize hl : (s.size : Int) = l
  have hl1 : 1 ≤ l := by omega
  have r0 := Int.emod_nonneg (n : Int) (show l ≠ 0 by omega)
  have r1 := Int.emod_lt_of_pos (n : Int) (show 0 < l by omega)
  have hd := Int.mul_ediv_add_emod (n : Int) l
  have q0 : 0 ≤ (n : Int) / l := Int.ediv_nonneg (by omega) (by omega)
  have hm : mv l n = if (n : Int) % l = 0 then 0 else l - (n : Int) % l := by
    rw [← mv_eq]
    by_cases hz : (n : Int) % l = 0
    · rw [if_pos hz, hz]; simp
    · rw [if_neg hz]; exact Int.emod_eq_of_lt (by omega) (by omega)
  rw [hm]
  generalize (n : Int) % l = r at *
  generalize (n : Int) / l = q at *
  have hq : 0 ≤ l * q := Int.mul_nonneg (by omega) q0
  have e1 : (l * q) % l = 0 := Int.mul_emod_right l q
  have e2 : (l * q + l) % l = 0 := by rw [show l * q + l = l * (q + 1) by rw [Int.mul_add, Int.mul_one]]; exact Int.mul_emod_right l (q + 1)
  by_cases hz : r = 0
  · rw [if_pos hz, if_neg (by omega)]
    refine ⟨by omega, by omega, ?_, by omega⟩
    rw [show (0 : Int) + n = l * q by omega]; exact e1
  · rw [if_neg hz]
    by_cases hb : l < 2 * (l - r)
    · rw [if_pos hb]
      refine ⟨by omega, by omega, ?_, by omega⟩
      rw [show l - r - l + (n : Int) = l * q by omega]; exact e1
    · rw [if_neg hb]
      refine ⟨by omega, by omega, ?_, by omega⟩
      rw [show l - r + (n : Int) = l * q + l by omega]; exact e2
theorem again_facts {s : ByteArray} {n : Nat} (h : Wd s) (n3 : 3 ≤ n) (n60 : n ≤ 60) : ∃ a : Nat, againV s n = ((a : Int), 0) ∧ 1 ≤ a ∧ a ≤ s.size ∧ ((a : Int) * n) % s.size = 0 ∧ ∀ k : Nat, 1 ≤ k → k < a → ((k : Int) * n) % s.size ≠ 0 := by
  have hc := wd_code h (n := (n : Int)) (by omega) (by omega)
  have l1 := h.l1
  have hg : 0 < Nat.gcd s.size n := Nat.gcd_pos_of_pos_left _ (by omega)
  have hgl := Nat.gcd_dvd_left s.size n
  have hgn := Nat.gcd_dvd_right s.size n
  refine ⟨s.size / Nat.gcd s.size n, by simp [againV, hc], Nat.div_pos (Nat.le_of_dvd (by omega) hgl) hg, Nat.div_le_self _ _, ?_, fun k k1 k2 hk => ?_⟩
  · have : s.size ∣ s.size / Nat.gcd s.size n * n := by
      obtain ⟨b, hb⟩ := hgn
      refine ⟨b, ?_⟩
      conv => lhs; rhs; rw [hb]
      rw [← Nat.mul_assoc, Nat.div_mul_cancel hgl]
    have h0 := Nat.mod_eq_zero_of_dvd this
    rw [← Int.natCast_mul, ← Int.natCast_emod, h0]; rfl
  · rw [← Int.natCast_mul, ← Int.natCast_emod] at hk
    have h0 : k * n % s.size = 0 := by omega
    have hd : s.size ∣ k * n := Nat.dvd_of_mod_eq_zero h0
    have h2 : s.size ∣ Nat.gcd (k * s.size) (k * n) := Nat.dvd_gcd (Nat.dvd_mul_left _ _) hd
    rw [Nat.gcd_mul_left] at h2
    have h3 : s.size ≤ k * Nat.gcd s.size n := Nat.le_of_dvd (Nat.mul_pos (by omega) hg) h2
    have h4 : s.size / Nat.gcd s.size n ≤ k := Nat.div_le_of_le_mul (by rw [Nat.mul_comm]; exact h3)
    omega
theorem strL_ris (s : ByteArray) {n : Nat} (n3 : 3 ≤ n) : Ris (n + 1) (strL s (n - 2)) := by
  constructor
  · unfold strL
    rw [List.pairwise_map]
    refine List.Pairwise.filter _ ?_
    exact List.pairwise_lt_range.imp fun h => by omega
  · intro z hz
    unfold strL at hz
    obtain ⟨i, hi, rfl⟩ := List.mem_map.1 hz
    have := List.mem_range.1 (List.mem_filter.1 hi).1
    omega
theorem strL_has (s : ByteArray) {n m : Nat} (n3 : 3 ≤ n) (hm : m ≤ n) : hasI (strL s (n - 2)) m = (decide (3 ≤ m) && strB s m) := by
  unfold hasI
  rw [Bool.eq_iff_iff, decide_eq_true_iff, Bool.and_eq_true, decide_eq_true_iff]
  unfold strL
  constructor
  · intro h
    obtain ⟨i, hi, e⟩ := List.mem_map.1 h
    obtain ⟨h1, h2⟩ := List.mem_filter.1 hi
    have : m = 3 + i := by omega
    subst this
    exact ⟨by omega, h2⟩
  · rintro ⟨h1, h2⟩
    refine List.mem_map.2 ⟨m - 3, List.mem_filter.2 ⟨List.mem_range.2 (by omega), ?_⟩, by omega⟩
    rw [show 3 + (m - 3) = m by omega]; exact h2
theorem strV_wd {s : ByteArray} {n : Nat} (h : Wd s) (n3 : 3 ≤ n) (n60 : n ≤ 60) : strV s n = (strL s (n - 2), 0) := by
  have hc := wd_code h (n := (n : Int)) (by omega) (by omega)
  have : ((n : Int) - 2).toNat = n - 2 := by omega
  simp [strV, hc, this]
theorem countV_wd {s : ByteArray} {n r : Nat} (h : Wd s) (n3 : 3 ≤ n) (n60 : n ≤ 60) (hr : r ≤ 100) : countV s n r ⟨#[97]⟩ = ((cnt s 97 (r * n) : Int), 0) := by
  have hc := wd_code h (n := (n : Int)) (by omega) (by omega)
  have h1 : inB (r : Int) 0 100 = true := (inB_iff _ _ _).2 ⟨by omega, by omega⟩
  have h2 : goodCol ⟨#[97]⟩ = true := by decide
  have h3 : bt ⟨#[97]⟩ 0 = 97 := by decide
  simp [countV, hc, h1, h2, h3]
theorem same_z {s : ByteArray} {n : Nat} (h : Wd s) (n3 : 3 ≤ n) (n60 : n ≤ 60) : sameV s ⟨#[122]⟩ n = (false, 0) := by
  have hn : inB (n : Int) 3 60 = true := (inB_iff _ _ _).2 ⟨by omega, by omega⟩
  have h1 : okWord ⟨#[122]⟩ = true := by decide
  have h2 : sameAll s ⟨#[122]⟩ = false := by
    refine sameAll_false (k := 0) (by have := h.l1; show 0 < s.size * 1; omega) ?_
    have h3 : bt ⟨#[122]⟩ (0 % 1) = 122 := by decide
    have h4 := h.rng 0 (by have := h.l1; omega)
    show ¬ bt s (0 % s.size) = bt ⟨#[122]⟩ (0 % 1)
    rw [h3, Nat.zero_mod]; omega
  simp [sameV, wd_ok h, h1, hn, h2]
theorem app_bt (s : ByteArray) (j : Nat) (hj : j < 2 * s.size) : bt (s ++ s) j = bt s (j % s.size) := by
  unfold bt
  have e : (s ++ s).data.toList = s.data.toList ++ s.data.toList := by simp
  have hl : s.data.toList.length = s.size := by simp
  rw [e, List.getD_eq_getElem?_getD, List.getD_eq_getElem?_getD]
  by_cases h : j < s.size
  · rw [List.getElem?_append_left (by omega), Nat.mod_eq_of_lt h]
  · rw [List.getElem?_append_right (by omega), hl, Nat.mod_eq_sub_mod (by omega), Nat.mod_eq_of_lt (by omega)]
theorem app_size (s : ByteArray) : (s ++ s).size = 2 * s.size := by rw [ByteArray.size_append]; omega
theorem same_two {s : ByteArray} {n : Nat} (h : Wd s) (n3 : 3 ≤ n) (n60 : n ≤ 60) : (2 * s.size ≤ 12 → sameV s (s ++ s) n = (true, 0)) ∧ (12 < 2 * s.size → sameV s (s ++ s) n = (false, 1)) := by
  have hn : inB (n : Int) 3 60 = true := (inB_iff _ _ _).2 ⟨by omega, by omega⟩
  have hz := app_size s
  constructor
  · intro h2
    have h1 : okWord (s ++ s) = true := by
      rw [okWord_iff]
      refine ⟨?_, by have := h.l1; omega, by omega⟩
      have e : (s ++ s).data.toList = s.data.toList ++ s.data.toList := by simp
      rw [e, List.all_append, (okWord_iff.1 (wd_ok h)).1]; rfl
    have h3 : sameAll s (s ++ s) = true := by
      refine sameAll_true fun j hj => ?_
      rw [app_bt s _ (by have := Nat.mod_lt j (show (s ++ s).size > 0 by have := h.l1; omega); omega), hz, Nat.mul_comm, Nat.mod_mul_right_mod]
    simp [sameV, wd_ok h, h1, hn, h3]
  · intro h2
    have h1 : okWord (s ++ s) = false := by
      rw [← Bool.not_eq_true, okWord_iff]; omega
    simp [sameV, h1]
/-- The first k bytes of round r are those of the first round. -/
def innB (s : ByteArray) (r m k : Nat) : Bool := (List.range k).all fun j => bu s ((r * m + j) % s.size) == bu s (j % s.size)
theorem innB_succ (s : ByteArray) (r m k : Nat) : innB s r m (k + 1) = (innB s r m k && (bu s ((r * m + k) % s.size) == bu s (k % s.size))) := by
  unfold innB; rw [List.range_succ, List.all_append]; simp
theorem innB_all (s : ByteArray) (r m : Nat) : innB s r m m = decide (rowU s (r * m) m = rowU s (0 * m) m) := by
  rw [Bool.eq_iff_iff, decide_eq_true_iff, rowU_eq]
  unfold innB
  rw [List.all_eq_true]
  constructor
  · intro h j hj; have := h j (List.mem_range.2 hj); simpa using this
  · intro h j hj; have := h j (List.mem_range.1 hj); simpa using this
/-- Rounds of m stakes up to round r are upright. -/
def upB (s : ByteArray) (m r : Nat) : Bool := decide (3 ≤ m) && qB s m r
theorem upB_one (s : ByteArray) (m : Nat) : upB s m 1 = decide (3 ≤ m) := by unfold upB; rw [qB_one]; simp
theorem upB_succ (s : ByteArray) (m r : Nat) : upB s m (r + 1) = (upB s m r && innB s r m m) := by unfold upB; rw [qB_succ, innB_all]; cases decide (3 ≤ m) <;> simp
theorem upB_end {s : ByteArray} (l1 : 1 ≤ s.size) (m : Nat) : upB s m s.size = (decide (3 ≤ m) && strB s m) := by
  unfold upB
  by_cases h : 3 ≤ m
  · rw [q_str l1 h]
  · simp [h]
theorem upB_false {s : ByteArray} {m r : Nat} (h : upB s m r = false) : ∀ t, r ≤ t → upB s m t = false := fun t ht => by
  obtain ⟨d, rfl⟩ : ∃ d, t = r + d := ⟨t - r, by omega⟩
  clear ht
  induction d with
  | zero => exact h
  | succ d ih => rw [← Nat.add_assoc, upB_succ, ih]; rfl
end Go.Proofs.Ytipelbhikomkiaa
