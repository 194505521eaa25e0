/- Rows of texts: l12Rows, areRows. -/
import Derived.Test.YtipelbhikomkiaaStrS
namespace Go.Proofs.Ytipelbhikomkiaa
open Go.RowKit
set_option linter.unusedVariables false
set_option linter.unusedSimpArgs false

def okC (c : Nat) : Bool := decide (c = 63) || inB (c : Int) 97 122
def size0 (ss : List ByteArray) : Nat := (ss.getD 0 ⟨#[]⟩).size
def okRow (l : Nat) (s : ByteArray) : Bool := inB (s.size : Int) 3 60 && decide (s.size = l) && (List.range s.size).all fun j => okC (bt s j)
def rowsB (ss : List ByteArray) : Bool := ss.all (okRow (size0 ss)) && inB (ss.length : Int) 1 8
def OkTill (s : ByteArray) (k : Nat) : Prop := ∀ j, j < k → okC (bt s j) = true
def RowsTill (ss : List ByteArray) (k : Nat) : Prop := ∀ j s, j < k → ss[j]? = some s → okRow (size0 ss) s = true
theorem okTill_succ {s : ByteArray} {k : Nat} (h : OkTill s k) (hk : okC (bt s k) = true) : OkTill s (k + 1) := fun j hj => by
  rcases Nat.lt_succ_iff_lt_or_eq.1 hj with h1 | rfl
  · exact h j h1
  · exact hk
theorem rowsTill_succ {ss : List ByteArray} {k : Nat} {s : ByteArray} (h : RowsTill ss k) (hs : ss[k]? = some s) (ho : okRow (size0 ss) s = true) : RowsTill ss (k + 1) := fun j t hj ht => by
  rcases Nat.lt_succ_iff_lt_or_eq.1 hj with h1 | rfl
  · exact h j t h1 ht
  · rw [hs] at ht; injection ht with ht; subst ht; exact ho
theorem rowsB_bad {ss : List ByteArray} {k : Nat} {s : ByteArray} (hs : ss[k]? = some s) (ho : okRow (size0 ss) s = false) : rowsB ss = false := by
  unfold rowsB
  rw [Bool.and_eq_false_iff]
  left
  rw [List.all_eq_false]
  exact ⟨s, List.mem_of_getElem? hs, by simpa using ho⟩
theorem rowsB_end {ss : List ByteArray} {n : Nat} (hl : ss.length = n) (h : RowsTill ss n) : rowsB ss = inB (n : Int) 1 8 := by
  unfold rowsB
  rw [hl, show ss.all (okRow (size0 ss)) = true from List.all_eq_true.2 fun s hs => by
    obtain ⟨j, hj, rfl⟩ := List.mem_iff_getElem.1 hs
    exact h j _ (by omega) (List.getElem?_eq_getElem hj)]
  rfl
theorem size0_eq {ss : List ByteArray} {s : ByteArray} (h : ss[0]? = some s) : size0 ss = s.size := by
  unfold size0; rw [List.getD_eq_getElem?_getD, h]; rfl
theorem okRow_st {l : Nat} {s : ByteArray} (h : inB (s.size : Int) 3 60 = false) : okRow l s = false := by simp [okRow, h]
theorem okRow_sz {l : Nat} {s : ByteArray} (h : ¬ s.size = l) : okRow l s = false := by simp [okRow, h]
theorem okRow_bad {l k : Nat} {s : ByteArray} (hk : k < s.size) (h : okC (bt s k) = false) : okRow l s = false := by
  unfold okRow
  rw [Bool.and_eq_false_iff]
  right
  rw [List.all_eq_false]
  exact ⟨k, by simpa using hk, by simpa using h⟩
theorem okRow_yes {l : Nat} {s : ByteArray} (h1 : inB (s.size : Int) 3 60 = true) (h2 : s.size = l) (h : OkTill s s.size) : okRow l s = true := by
  unfold okRow
  rw [h1, decide_eq_true h2, show ((List.range s.size).all fun j => okC (bt s j)) = true from List.all_eq_true.2 fun j hj => h j (by simpa using hj)]
  rfl
theorem okC_no {c : Nat} (h : okC c = false) : c ≠ 63 ∧ (c < 97 ∨ 122 < c) := by
  unfold okC at h
  rw [Bool.or_eq_false_iff, inB_not] at h
  have := h.1
  simp at this
  exact ⟨this, by omega⟩
theorem okC_yes {c : Nat} (h : okC c = true) : c = 63 ∨ (97 ≤ c ∧ c ≤ 122) := by
  unfold okC at h
  rw [Bool.or_eq_true, inB_iff, decide_eq_true_iff] at h
  omega
theorem l06Stakes_eq (n : Int) (v : Bool) (w : World) (h : inB n 3 60 = v) : Calls Try.prog 46 #[.int .i64 n] w fun e w' => e = .returned (.bool v) ∧ w' = w := by
  subst h; exact (l06Stakes_any n w).mono fun _ _ ⟨a, b⟩ => ⟨a, b.symm⟩
theorem l12Rows_any (A : Option Addr) (n c : Nat) (ss : List ByteArray) (w : World) (h : Strs w A n ss) (hn : n ≤ 1048576) (hsz : ∀ s ∈ ss, s.size ≤ maxLen) : Calls Try.prog 56 #[.slice A n c] w fun e w' =>
    e = .returned (.bool (rowsB ss)) ∧ Below w.heap.size w w' := by
  have HS := Box0.mk hsz
  have HL := Lib.hid h.1
  clear hsz
  go_enter Try.func56, Try.ntmps56
  go_wp2
  go_loopw [3] (fun i wr => ∃ k : Nat, k ≤ n ∧ i = .int .i64 k ∧ RowsTill ss k ∧ ∃ q, wr = w.drewN q) (fun i _ => n - (intOf i).toNat)
  case atStart => exact ⟨0, Nat.zero_le _, rfl, fun _ _ h => absurd h (by omega), 0, rfl⟩
  case round =>
    obtain ⟨k, hk, rfl, hR, nw, rfl⟩ := hrel
    by_cases hlt : k < n
    · obtain ⟨b, off, s, rfl, hblt, hs, hcell⟩ := h.at_ hlt
      obtain ⟨b0, off0, s0, hA, hblt0, hs0, hcell0⟩ := h.at_ (show 0 < n by omega)
      injection hA with hA
      injection hA with hA1 hA2
      subst hA1 hA2
      have hmx := HS.out s (List.mem_of_getElem? hs)
      have hmx0 := HS.out s0 (List.mem_of_getElem? hs0)
      unfold maxLen at hmx hmx0
      have hcell1 : w.cell? ⟨b, off, none⟩ = some (.string s0) := hcell0
      have HZ := Lib.hid (size0_eq hs0)
      have H := Lib.hid hs
      have k0 : (0 : Int) ≤ (k : Int) := by omega
      have k1 : (k : Int) < (n : Int) := by omega
      have k2 : (0 : Int) < (n : Int) := by omega
      have k3 : 0 < n := by omega
      clear hs hs0
      cases hst : inB (s.size : Int) 3 60
      · go_wp2
        go_quiet ((go_at_call 46; exact quiet_add_same (l06Stakes_eq _ _ _ (by assumption))))
        go_wp2
        go_ret
        exact ⟨ret_bool (rowsB_bad H.out (okRow_st hst)).symm, below_drewN (below_drewN (Below.refl _ _) _) _⟩
      have hst2 := Lib.hid hst
      by_cases hsl : s.size = s0.size
      case neg =>
        have hbad : ¬ s.size = size0 ss := by rw [HZ.out]; exact hsl
        have HB := Lib.hid (okRow_sz hbad)
        have t1 : ((s.size : Int) != (s0.size : Int)) = true := by rw [bne_iff_ne]; omega
        clear hsl hbad
        go_wp2
        go_quiet ((go_at_call 46; exact quiet_add_same (l06Stakes_eq _ _ _ (by assumption))))
        go_wp2
        go_ret
        exact ⟨ret_bool (rowsB_bad H.out HB.out).symm, below_drewN (below_drewN (Below.refl _ _) _) _⟩
      have t1 : ((s.size : Int) != (s0.size : Int)) = false := by simp [hsl]
      have HE := Lib.hid (show s.size = size0 ss by rw [HZ.out]; exact hsl)
      clear hsl
      go_wp2
      go_quiet ((go_at_call 46; exact quiet_add_same (l06Stakes_eq _ _ _ (by assumption))))
      go_wp2
      go_loopw [4] (fun i wi => ∃ j : Nat, j ≤ s.size ∧ i = .int .i64 j ∧ OkTill s j ∧ ∃ q, wi = w.drewN q) (fun i _ => s.size - (intOf i).toNat)
      case atStart => exact ⟨0, Nat.zero_le _, rfl, fun _ h => absurd h (by omega), (by first | exact ⟨_, rfl⟩ | exact drew2 _ _ _ | exact ⟨0, rfl⟩)⟩
      case round =>
      obtain ⟨j, hj, rfl, hO, nj, rfl⟩ := hrel
      by_cases hlj : j < s.size
      · have j0 : (0 : Int) ≤ (j : Int) := by omega
        have j1 : (j : Int) < (s.size : Int) := by omega
        cases ho : okC (bt s j)
        · have hb : bt s j ≠ 63 ∧ (bt s j < 97 ∨ 122 < bt s j) := okC_no ho
          have HB := Lib.hid (okRow_bad (l := size0 ss) hlj ho)
          rw [← bt_eq hlj] at hb
          have e1 : (((s[j]'hlj).toNat : Int) != 63) = true := by rw [bne_iff_ne]; omega
          clear ho
          by_cases c1 : ((s[j]'hlj).toNat : Int) < 97
          · go_wp2
            go_ret
            exact ⟨ret_bool (rowsB_bad H.out HB.out).symm, below_drewN (Below.refl _ _) _⟩
          · have c2 : 122 < ((s[j]'hlj).toNat : Int) := by omega
            go_wp2
            go_ret
            exact ⟨ret_bool (rowsB_bad H.out HB.out).symm, below_drewN (Below.refl _ _) _⟩
        · have HO := Lib.hid (okTill_succ hO ho)
          have hb : bt s j = 63 ∨ (97 ≤ bt s j ∧ bt s j ≤ 122) := okC_yes ho
          rw [← bt_eq hlj] at hb
          clear ho
          by_cases c0 : ((s[j]'hlj).toNat : Int) = 63
          · have e1 : (((s[j]'hlj).toNat : Int) != 63) = false := by rw [c0]; rfl
            clear hb c0
            go_wp2
            go_roundw
            case rel => exact ⟨j + 1, by omega, by go_num, HO.out, _, rfl⟩
            case measure => simp [intOf]; omega
          · have e1 : (((s[j]'hlj).toNat : Int) != 63) = true := by rw [bne_iff_ne]; exact c0
            have c1 : ¬ ((s[j]'hlj).toNat : Int) < 97 := by omega
            have c2 : ¬ 122 < ((s[j]'hlj).toNat : Int) := by omega
            clear hb c0
            go_wp2
            go_roundw
            case rel => exact ⟨j + 1, by omega, by go_num, HO.out, _, rfl⟩
            case measure => simp [intOf]; omega
      · obtain rfl : j = s.size := by omega
        have HR := Lib.hid (rowsTill_succ hR H.out (okRow_yes hst2.out HE.out hO))
        go_wp2
        go_roundw
        case rel => exact ⟨k + 1, by omega, by go_num, HR.out, _, rfl⟩
        case measure => simp [intOf]; omega
    · obtain rfl : k = n := by omega
      have HE := Lib.hid (rowsB_end HL.out hR)
      cases hin : inB (k : Int) 1 8
      · go_wp2_with (go_at_call 50; refine (l00In_eq _ _ _ _ _ hin).mono ?_; rintro e w' ⟨rfl, rfl⟩)
        go_ret
        exact ⟨ret_bool (by rw [HE.out, hin]), below_drewN (Below.refl _ _) _⟩
      · go_wp2_with (go_at_call 50; refine (l00In_eq _ _ _ _ _ hin).mono ?_; rintro e w' ⟨rfl, rfl⟩)
        go_ret
        exact ⟨ret_bool (by rw [HE.out, hin]), below_drewN (Below.refl _ _) _⟩
theorem areStakes_eq (n : Int) (v : Bool) (w : World) (h : inB n 3 60 = v) : Calls Try.prog 47 #[.int .i64 n] w fun e w' => e = .returned (.bool v) ∧ w' = w := by
  subst h; exact (areStakes_any n w).mono fun _ _ ⟨a, b⟩ => ⟨a, b.symm⟩
theorem isColour_eq (n : Int) (v : Bool) (w : World) (h : inB n 97 122 = v) : Calls Try.prog 45 #[.int .u8 n] w fun e w' => e = .returned (.bool v) ∧ w' = w := by
  subst h; exact (isColour_any n w).mono fun _ _ ⟨a, b⟩ => ⟨a, b.symm⟩
theorem areRows_any (A : Option Addr) (n c : Nat) (ss : List ByteArray) (w : World) (h : Strs w A n ss) (hn : n ≤ 1048576) (hsz : ∀ s ∈ ss, s.size ≤ maxLen) : Calls Try.prog 58 #[.slice A n c] w fun e w' =>
    e = .returned (.bool (rowsB ss)) ∧ w = w' := by
  have HS := Box0.mk hsz
  have HL := Lib.hid h.1
  clear hsz
  go_enter Try.func58, Try.ntmps58
  go_wp2
  go_loop [8] (fun i => ∃ k : Nat, k ≤ n ∧ i = .int .i64 k ∧ RowsTill ss k) (fun i => n - (intOf i).toNat)
  case atStart => exact ⟨0, Nat.zero_le _, rfl, fun _ _ h => absurd h (by omega)⟩
  case round =>
    obtain ⟨k, hk, rfl, hR⟩ := hrel
    by_cases hlt : k < n
    · obtain ⟨b, off, s, rfl, hblt, hs, hcell⟩ := h.at_ hlt
      obtain ⟨b0, off0, s0, hA, hblt0, hs0, hcell0⟩ := h.at_ (show 0 < n by omega)
      injection hA with hA
      injection hA with hA1 hA2
      subst hA1 hA2
      have hmx := HS.out s (List.mem_of_getElem? hs)
      have hmx0 := HS.out s0 (List.mem_of_getElem? hs0)
      unfold maxLen at hmx hmx0
      have hcell1 : w.cell? ⟨b, off, none⟩ = some (.string s0) := hcell0
      have HZ := Lib.hid (size0_eq hs0)
      have H := Lib.hid hs
      have k0 : (0 : Int) ≤ (k : Int) := by omega
      have k1 : (k : Int) < (n : Int) := by omega
      have k2 : (0 : Int) < (n : Int) := by omega
      have k3 : 0 < n := by omega
      clear hs hs0
      by_cases hsl : s.size = s0.size
      case neg =>
        have hbad : ¬ s.size = size0 ss := by rw [HZ.out]; exact hsl
        have HB := Lib.hid (okRow_sz hbad)
        have t1 : ((s.size : Int) != (s0.size : Int)) = true := by rw [bne_iff_ne]; omega
        clear hsl hbad
        go_wp2
        go_ret
        exact ⟨ret_bool (rowsB_bad H.out HB.out).symm, rfl⟩
      have t1 : ((s.size : Int) != (s0.size : Int)) = false := by simp [hsl]
      have HE := Lib.hid (show s.size = size0 ss by rw [HZ.out]; exact hsl)
      clear hsl
      cases hst : inB (s.size : Int) 3 60
      · go_wp2_with (go_at_call 47; refine (areStakes_eq _ _ _ (by assumption)).mono ?_; rintro e w' ⟨rfl, rfl⟩)
        go_ret
        exact ⟨ret_bool (rowsB_bad H.out (okRow_st hst)).symm, rfl⟩
      have hst2 := Lib.hid hst
      go_wp2_with (go_at_call 47; refine (areStakes_eq _ _ _ (by assumption)).mono ?_; rintro e w' ⟨rfl, rfl⟩)
      go_loop [27] (fun i => ∃ j : Nat, j ≤ s.size ∧ i = .int .i64 j ∧ OkTill s j) (fun i => s.size - (intOf i).toNat)
      case atStart => exact ⟨0, Nat.zero_le _, rfl, fun _ h => absurd h (by omega)⟩
      case round =>
      obtain ⟨j, hj, rfl, hO⟩ := hrel
      by_cases hlj : j < s.size
      · have j0 : (0 : Int) ≤ (j : Int) := by omega
        have j1 : (j : Int) < (s.size : Int) := by omega
        cases ho : okC (bt s j)
        · have hb : bt s j ≠ 63 ∧ (bt s j < 97 ∨ 122 < bt s j) := okC_no ho
          have HB := Lib.hid (okRow_bad (l := size0 ss) hlj ho)
          rw [← bt_eq hlj] at hb
          have e1 : (((s[j]'hlj).toNat : Int) != 63) = true := by rw [bne_iff_ne]; omega
          have e2 : inB ((s[j]'hlj).toNat : Int) 97 122 = false := by rw [inB_not]; omega
          clear ho hb
          go_wp2_with (go_at_call 45; refine (isColour_eq _ _ _ (by assumption)).mono ?_; rintro e w' ⟨rfl, rfl⟩)
          go_ret
          exact ⟨ret_bool (rowsB_bad H.out HB.out).symm, rfl⟩
        · have HO := Lib.hid (okTill_succ hO ho)
          have hb : bt s j = 63 ∨ (97 ≤ bt s j ∧ bt s j ≤ 122) := okC_yes ho
          rw [← bt_eq hlj] at hb
          clear ho
          by_cases c0 : ((s[j]'hlj).toNat : Int) = 63
          · have e1 : (((s[j]'hlj).toNat : Int) != 63) = false := by rw [c0]; rfl
            clear hb c0
            go_wp2_with (go_at_call 45; refine (isColour_eq _ _ _ (by assumption)).mono ?_; rintro e w' ⟨rfl, rfl⟩)
            go_round
            case rel => exact ⟨j + 1, by omega, by go_num, HO.out⟩
            case measure => simp [intOf]; omega
          · have e1 : (((s[j]'hlj).toNat : Int) != 63) = true := by rw [bne_iff_ne]; exact c0
            have e2 : inB ((s[j]'hlj).toNat : Int) 97 122 = true := by rw [inB_iff]; omega
            clear hb c0
            go_wp2_with (go_at_call 45; refine (isColour_eq _ _ _ (by assumption)).mono ?_; rintro e w' ⟨rfl, rfl⟩)
            go_round
            case rel => exact ⟨j + 1, by omega, by go_num, HO.out⟩
            case measure => simp [intOf]; omega
      · obtain rfl : j = s.size := by omega
        have HR := Lib.hid (rowsTill_succ hR H.out (okRow_yes hst2.out HE.out hO))
        go_wp2
        go_round
        case rel => exact ⟨k + 1, by omega, by go_num, HR.out⟩
        case measure => simp [intOf]; omega
    · obtain rfl : k = n := by omega
      have HE := Lib.hid (rowsB_end HL.out hR)
      by_cases c1 : 1 ≤ k
      · by_cases c2 : k ≤ 8
        · have hin : inB (k : Int) 1 8 = true := by rw [inB_iff]; omega
          go_wp2
          go_ret
          exact ⟨ret_bool (by rw [HE.out, hin]; simp; omega), rfl⟩
        · have hin : inB (k : Int) 1 8 = false := by rw [inB_not]; omega
          go_wp2
          go_ret
          exact ⟨ret_bool (by rw [HE.out, hin]; simp; omega), rfl⟩
      · have hin : inB (k : Int) 1 8 = false := by rw [inB_not]; omega
        go_wp2
        go_ret
        exact ⟨ret_bool (by rw [HE.out, hin]), rfl⟩
end Go.Proofs.Ytipelbhikomkiaa
