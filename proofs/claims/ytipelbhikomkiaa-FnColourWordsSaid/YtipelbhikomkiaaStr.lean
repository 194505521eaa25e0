/- StripesWith. -/
import Derived.Test.YtipelbhikomkiaaRow2
import Derived.Laws.StructEq
namespace Go.Proofs.Ytipelbhikomkiaa
open Go.RowKit
set_option linter.unusedVariables false
set_option linter.unusedSimpArgs false

def bu (s : ByteArray) (i : Nat) : UInt8 := s.data.toList.getD i 0
def rowU (s : ByteArray) (f m : Nat) : List UInt8 := (List.range m).map fun j => bu s ((f + j) % s.size)
theorem row_toList (s : ByteArray) (f m : Nat) : (strOfNums (rowI s f m)).toList = rowU s f m := by
  rw [ByteArray.toList_eq, strOfNums_data]
  unfold rowI rowU
  rw [List.map_map]
  refine List.map_congr_left fun j _ => ?_
  show UInt8.ofNat ((bt s ((f + j) % s.size) : Int)).toNat = _
  rw [Int.toNat_natCast]
  exact UInt8.ofNat_toNat
theorem s_toList (s : ByteArray) : s.toList = rowU s 0 s.size := by
  rw [ByteArray.toList_eq]
  unfold rowU
  apply List.ext_getElem
  · simp
  · intro j h1 h2
    have hj : j < s.size := by simpa using h2
    simp only [List.getElem_map, List.getElem_range, Nat.zero_add, Nat.mod_eq_of_lt hj]
    unfold bu
    rw [List.getD_eq_getElem?_getD, List.getElem?_eq_getElem h1]; rfl
theorem rowU_eq {s : ByteArray} {f g m : Nat} : rowU s f m = rowU s g m ↔ ∀ j, j < m → bu s ((f + j) % s.size) = bu s ((g + j) % s.size) := by
  unfold rowU
  rw [List.map_inj_left]
  simp
def strB (s : ByteArray) (n : Nat) : Bool := decide (rowU s n s.size = rowU s 0 s.size)
def qB (s : ByteArray) (n r : Nat) : Bool := (List.range r).all fun i => decide (rowU s (i * n) n = rowU s (0 * n) n)
theorem qB_succ (s : ByteArray) (n r : Nat) : qB s n (r + 1) = (qB s n r && decide (rowU s (r * n) n = rowU s (0 * n) n)) := by
  unfold qB
  rw [List.range_succ, List.all_append]; simp
theorem qB_one (s : ByteArray) (n : Nat) : qB s n 1 = true := by
  rw [show (1 : Nat) = 0 + 1 from rfl, qB_succ]; simp [qB]
theorem q_str {s : ByteArray} {n : Nat} (l1 : 1 ≤ s.size) (n3 : 3 ≤ n) : qB s n s.size = strB s n := by
  rw [Bool.eq_iff_iff]
  unfold qB strB
  rw [List.all_eq_true, decide_eq_true_iff, rowU_eq]
  constructor
  · intro h j hj
    have hm : ∀ r k, r < s.size → k < n → bu s ((r * n + k) % s.size) = bu s (k % s.size) := fun r k hr hk => by
      have := h r (by simpa using hr)
      rw [decide_eq_true_iff, rowU_eq] at this
      simpa using this k hk
    by_cases h1 : s.size = 1
    · rw [h1, Nat.mod_one, Nat.mod_one]
    have hd : j / n * n + j % n = j := by rw [Nat.mul_comm]; exact Nat.div_add_mod j n
    have hk := Nat.mod_lt j (show n > 0 by omega)
    have hq : j / n ≤ j / 3 := Nat.div_le_div_left n3 (by omega)
    have a1 := hm (j / n) (j % n) (by omega) hk
    have a2 := hm (j / n + 1) (j % n) (by omega) hk
    rw [hd] at a1
    rw [show (j / n + 1) * n + j % n = n + j by rw [Nat.add_mul]; omega] at a2
    rw [a2, Nat.zero_add, a1]
  · intro h i hi
    rw [decide_eq_true_iff, rowU_eq]
    have hp : ∀ x, bu s ((n + x) % s.size) = bu s (x % s.size) := fun x => by
      have := h (x % s.size) (Nat.mod_lt _ (by omega))
      rw [Nat.zero_add, Nat.mod_mod, Nat.add_mod_mod] at this
      exact this
    intro j _
    have : ∀ i : Nat, bu s ((i * n + j) % s.size) = bu s (j % s.size) := fun i => by
      induction i with
      | zero => simp
      | succ i ih => rw [show (i + 1) * n + j = n + (i * n + j) by rw [Nat.add_mul]; omega, hp, ih]
    rw [this i, this 0]
def strL (s : ByteArray) (k : Nat) : List Int := ((List.range k).filter fun i => strB s (3 + i)).map fun i => ((3 + i : Nat) : Int)
theorem strL_yes {s : ByteArray} {k : Nat} (h : strB s (3 + k) = true) : strL s (k + 1) = strL s k ++ [((3 + k : Nat) : Int)] := by
  unfold strL
  rw [List.range_succ, List.filter_append, List.map_append]
  simp [h]
theorem strL_no {s : ByteArray} {k : Nat} (h : strB s (3 + k) = false) : strL s (k + 1) = strL s k := by
  unfold strL
  rw [List.range_succ, List.filter_append, List.map_append]
  simp [h]
theorem strL_len (s : ByteArray) (k : Nat) : (strL s k).length ≤ k := by
  unfold strL
  rw [List.length_map]
  refine Nat.le_trans (List.length_filter_le _ _) ?_
  simp
def strM (s : ByteArray) (m : Nat) : List Int := strL s (m - 3)
theorem strM_yes {s : ByteArray} {m : Nat} (h3 : 3 ≤ m) (h : strB s m = true) : strM s (m + 1) = strM s m ++ [(m : Int)] := by
  obtain ⟨k, rfl⟩ : ∃ k, m = 3 + k := ⟨m - 3, by omega⟩
  unfold strM
  rw [show 3 + k + 1 - 3 = k + 1 by omega, show 3 + k - 3 = k by omega]
  exact strL_yes h
theorem strM_no {s : ByteArray} {m : Nat} (h3 : 3 ≤ m) (h : strB s m = false) : strM s (m + 1) = strM s m := by
  obtain ⟨k, rfl⟩ : ∃ k, m = 3 + k := ⟨m - 3, by omega⟩
  unfold strM
  rw [show 3 + k + 1 - 3 = k + 1 by omega, show 3 + k - 3 = k by omega]
  exact strL_no h
theorem strM_len (s : ByteArray) (m : Nat) : (strM s m).length ≤ m - 3 := strL_len s _
theorem beq_dec {α : Type} [DecidableEq α] (a b : List α) : (a == b) = decide (a = b) := by
  by_cases h : a = b
  · subst h; simp
  · rw [decide_eq_false h, beq_eq_false_iff_ne]; exact h
theorem along_eq (s t : ByteArray) (f m : Nat) (F : Int) (hF : F = (f : Int)) (w : World) (l1 : 1 ≤ s.size) (l2 : s.size ≤ 12) (hf : f ≤ 10000) (hm : m ≤ 100) (ht : strOfNums (rowI s f m) = t) : Calls Try.prog 55 #[.string s, .int .i64 F, .int .i64 1, .int .i64 m] w fun e w' =>
    e = .returned (.string t) ∧ Below w.heap.size w w' := by
  subst ht
  exact along_any s f m F hF w l1 l2 hf hm
theorem l12Row_eq (s t : ByteArray) (r m : Nat) (w : World) (l1 : 1 ≤ s.size) (l2 : s.size ≤ 12) (hr : r ≤ 100) (hm : m ≤ 100) (ht : strOfNums (rowI s (r * m) m) = t) : Calls Try.prog 54 #[.string s, .int .i64 m, .int .i64 r] w fun e w' =>
    e = .returned (.string t) ∧ Below w.heap.size w w' := by
  subst ht
  exact l12Row_any s r m w l1 l2 hr hm
theorem hr_le {r l : Nat} (r1 : 1 ≤ r) (h : r < l) (l2 : l ≤ 12) : r ≤ 11 := by omega
def strV (s : ByteArray) (n : Int) : List Int × Int := if wCode s n = 0 then (strL s (n - 2).toNat, 0) else ([], wCode s n)
def StrPost (s : ByteArray) (n : Int) (w : World) (e : Ending) (w' : World) : Prop :=
  ∃ C q p, e = .returned (.tuple #[.slice C q p, .int .i64 (strV s n).2]) ∧ OwnI w' w.heap.size (.slice C q p) q (strV s n).1 ∧ Below w.heap.size w w'
theorem implStr_any (s : ByteArray) (n : Int) (w : World) (hs : s.size ≤ maxLen) : Calls Try.prog 27 #[.string s, .int .i64 n] w (StrPost s n w) := by
  obtain ⟨i0, hi0, hz0, hz1, hz2⟩ := info_parts info_i64
  by_cases hq : wCode s n = 0
  case neg =>
    have hv : strV s n = ([], wCode s n) := by simp [strV, hq]
    have HV := Lib.hid hv
    clear hv
    generalize hc : wCode s n = c at *
    have Hq := Lib.hid hc
    clear hc
    go_enter Try.func27, Try.ntmps27
    go_wp2_with (go_at_call 49; refine (wordCode_eq _ _ _ _ hs Hq.out).mono ?_; rintro e w' ⟨rfl, rfl⟩)
    go_ret2
    exact ⟨none, 0, 0, by rw [HV.out]; rfl, by rw [HV.out]; exact World.ownsRow_nil _ _ _ _, Below.refl _ _⟩
  have Hq := Lib.hid hq
  clear hq
  obtain ⟨g1, g2⟩ := wCode_good Hq.out
  obtain ⟨n0, n1⟩ := (inB_iff _ _ _).1 g2
  obtain ⟨_, l1, l2⟩ := okWord_iff.1 g1
  obtain ⟨n, rfl⟩ := Int.eq_ofNat_of_zero_le (show 0 ≤ n by omega)
  have hv : strV s n = (strL s (n - 2), 0) := by
    have : ((n : Int) - 2).toNat = n - 2 := by omega
    simp [strV, Hq.out, this]
  have HV := Lib.hid hv
  clear hv g1 g2
  go_enter Try.func27, Try.ntmps27
  go_wp2_with (go_at_call 49; refine (wordCode_eq _ _ _ _ hs Hq.out).mono ?_; rintro e w' ⟨rfl, rfl⟩)
  go_loopw [7, 8] (fun v i wr => ∃ k : Nat, 3 ≤ k ∧ k ≤ n + 1 ∧ i = .int .i64 k ∧ (∃ C q p, v = .slice C q p ∧ OwnI wr w.heap.size (.slice C q p) q (strM s k)) ∧ Below w.heap.size w wr) (fun _ i _ => n + 1 - (intOf i).toNat)
  case atStart =>
    refine ⟨3, Nat.le_refl _, by omega, rfl, ⟨_, _, _, rfl, ?_⟩, ?_⟩
    · exact World.ownsRow_made _ _ _ (by simp) (by unfold maxLen; omega) (by simp)
    · (repeat' (first | (with_reducible exact Below.refl _ _) | (with_reducible assumption) | (with_reducible refine Below.drew ?_) | (with_reducible refine below_drewN ?_ _) | (with_reducible refine Below.setCell ?_ ?_ _) | (with_reducible refine Below.alloc ?_ ?_ _) | go_size))
  case round =>
    obtain ⟨k, hk3, hk, rfl, ⟨C, q, p, rfl, hown⟩, hB⟩ := hrel
    have hqk : q ≤ k := by rw [← OwnI.len hown]; have := strM_len s k; omega
    have hbs := hB.size
    by_cases hlt : k ≤ n
    · have d1 : decide (k ≤ n) = true := decide_eq_true hlt
      have d2 : (k : Int) ≤ (n : Int) := by omega
      obtain ⟨t, ht⟩ : ∃ t, strOfNums (rowI s (k) s.size) = t := ⟨_, rfl⟩
      have hcmp : (t.toList == s.toList) = strB s k := by rw [← ht, row_toList, s_toList, beq_dec]; rfl
      go_wp2_with fail
      refine (along_eq _ t (k) _ _ rfl _ l1 l2 (by omega) (by omega) ht).mono ?_
      rintro e w2 ⟨rfl, hb2⟩
      replace hown := OwnI.keep hown hb2
      replace hB := belowT hb2 hB
      have hbs2 := hB.size
      clear ht hb2 hbs
      cases hcb : strB s k
      · rw [hcb] at hcmp
        have HE := Lib.hid (strM_no hk3 hcb)
        clear hcb
        go_wp2_with fail
        go_roundw
        case rel => exact ⟨k + 1, by omega, by omega, by go_num, ⟨_, _, _, rfl, by rw [HE.out]; exact hown⟩, hB⟩
        case measure => simp [intOf]; omega
      · rw [hcb] at hcmp
        have HE := Lib.hid (strM_yes hk3 hcb)
        clear hcb
        go_wp2_with (at_builtin; refine wpList_append_own _ rfl _ _ 34 rfl w.heap.size 2 i0 (.int .i64 0) 1 8 Try.underlying34 hi0 hz0 hz1 hz2 rfl (by decide) _ _ _ rfl (hown.alloc _) ⟨_, 0, none⟩ 1 1 [.int .i64 (k : Int)] rfl rfl (cell_one_new _ _ _) (ints_oneCell .i64 [(k : Int)]) (by unfold maxLen; omega) (by omega) (by simp; omega) ?_; intro v1 w1 hown1 hgrow1 _)
        go_roundw
        case rel =>
          obtain ⟨C', p', rfl, hown'⟩ := own_app hown1
          exact ⟨k + 1, by omega, by omega, by go_num, ⟨_, _, _, rfl, by rw [HE.out]; exact hown'⟩, below_app hB hown hgrow1⟩
        case measure => simp [intOf]; omega
    · have d1 : decide (k ≤ n) = false := decide_eq_false hlt
      have d2 : ¬ (k : Int) ≤ (n : Int) := by omega
      have he : strM s k = strL s (n - 2) := by unfold strM; rw [show k - 3 = n - 2 by omega]
      rw [he] at hown
      clear he
      go_wp2
      go_ret2
      exact ⟨_, _, _, by rw [HV.out]; rfl, by rw [HV.out]; exact hown, hB⟩
theorem specStr_any (s : ByteArray) (n : Int) (w : World) (hs : s.size ≤ maxLen) : Calls Try.prog 26 #[.string s, .int .i64 n] w (StrPost s n w) := by
  obtain ⟨i0, hi0, hz0, hz1, hz2⟩ := info_parts info_i64
  by_cases hq : wCode s n = 0
  case neg =>
    have hv : strV s n = ([], wCode s n) := by simp [strV, hq]
    have HV := Lib.hid hv
    clear hv
    generalize hc : wCode s n = c at *
    have Hq := Lib.hid hc
    clear hc
    go_enter Try.func26, Try.ntmps26
    go_wp2_with (go_at_call 48; refine (l12Code_eq _ _ _ _ hs Hq.out).mono ?_; rintro e w' ⟨rfl, rfl⟩)
    go_ret2
    exact ⟨none, 0, 0, by rw [HV.out]; rfl, by rw [HV.out]; exact World.ownsRow_nil _ _ _ _, Below.refl _ _⟩
  have Hq := Lib.hid hq
  clear hq
  obtain ⟨g1, g2⟩ := wCode_good Hq.out
  obtain ⟨n0, n1⟩ := (inB_iff _ _ _).1 g2
  obtain ⟨_, l1, l2⟩ := okWord_iff.1 g1
  obtain ⟨n, rfl⟩ := Int.eq_ofNat_of_zero_le (show 0 ≤ n by omega)
  have hv : strV s n = (strL s (n - 2), 0) := by
    have : ((n : Int) - 2).toNat = n - 2 := by omega
    simp [strV, Hq.out, this]
  have HV := Lib.hid hv
  clear hv g1 g2
  go_enter Try.func26, Try.ntmps26
  go_wp2_with (go_at_call 48; refine (l12Code_eq _ _ _ _ hs Hq.out).mono ?_; rintro e w' ⟨rfl, rfl⟩)
  go_loopw [7, 8] (fun v i wr => ∃ k : Nat, 3 ≤ k ∧ k ≤ n + 1 ∧ i = .int .i64 k ∧ (∃ C q p, v = .slice C q p ∧ OwnI wr w.heap.size (.slice C q p) q (strM s k)) ∧ Below w.heap.size w wr) (fun _ i _ => n + 1 - (intOf i).toNat)
  case atStart =>
    refine ⟨3, Nat.le_refl _, by omega, rfl, ⟨_, _, _, rfl, ?_⟩, ?_⟩
    · exact World.ownsRow_made _ _ _ (by simp) (by unfold maxLen; omega) (by simp)
    · (repeat' (first | (with_reducible exact Below.refl _ _) | (with_reducible assumption) | (with_reducible refine Below.drew ?_) | (with_reducible refine below_drewN ?_ _) | (with_reducible refine Below.setCell ?_ ?_ _) | (with_reducible refine Below.alloc ?_ ?_ _) | go_size))
  case round =>
    obtain ⟨k, hk3, hk, rfl, ⟨C, q, p, rfl, hown⟩, hB⟩ := hrel
    have hqk : q ≤ k := by rw [← OwnI.len hown]; have := strM_len s k; omega
    have hbs := hB.size
    by_cases hlt : k ≤ n
    · have d1 : decide (k ≤ n) = true := decide_eq_true hlt
      have d2 : (k : Int) ≤ (n : Int) := by omega
      have hcmp := q_str (n := k) l1 (by omega)
      go_wp2_with fail
      go_loopw [9, 10] (fun b i wi => ∃ r : Nat, 1 ≤ r ∧ r ≤ s.size ∧ i = .int .i64 r ∧ b = .bool (qB s (k) r) ∧ Below wr.heap.size wr wi) (fun _ i _ => s.size - (intOf i).toNat)
      case atStart => exact ⟨1, Nat.le_refl _, l1, rfl, by rw [qB_one], Below.refl _ _⟩
      case round =>
      obtain ⟨r, r1, r2, rfl, rfl, hbi⟩ := hrel
      by_cases hlr : r < s.size
      · have HQ := Lib.hid (qB_succ s (k) r)
        cases hq1 : qB s (k) r
        · rw [hq1] at HQ
          have HQ1 := Lib.hid hq1
          clear hq1 hcmp
          go_wp2_with fail
          go_roundw
          case rel => exact ⟨r + 1, by omega, by omega, by go_num, by rw [HQ.out]; rfl, hbi⟩
          case measure => simp [intOf]; omega
        · rw [hq1] at HQ
          obtain ⟨t, ht⟩ : ∃ t, strOfNums (rowI s (r * (k)) (k)) = t := ⟨_, rfl⟩
          obtain ⟨t0, ht0⟩ : ∃ t, strOfNums (rowI s (0 * (k)) (k)) = t := ⟨_, rfl⟩
          have hc2 : (t.toList == t0.toList) = decide (rowU s (r * (k)) (k) = rowU s (0 * (k)) (k)) := by rw [← ht, ← ht0, row_toList, row_toList, beq_dec]
          have HC2 := Lib.hid hc2
          clear hq1 hcmp hc2
          have hrm := hr_le r1 hlr l2
          go_wp2_with fail
          refine (l12Row_eq _ t r (k) _ l1 l2 (by omega) (by omega) ht).mono ?_
          rintro e w2 ⟨rfl, hb2⟩
          go_wp2_with fail
          refine (l12Row_eq _ t0 0 (k) _ l1 l2 (by omega) (by omega) ht0).mono ?_
          rintro e w3 ⟨rfl, hb3⟩
          clear ht ht0
          go_wp2_with fail
          go_roundw
          case rel => exact ⟨r + 1, by omega, by omega, by go_num, by rw [HQ.out, HC2.out]; rfl, belowT hb3 (belowT hb2 hbi)⟩
          case measure => simp [intOf]; omega
      obtain rfl : r = s.size := by omega
      rw [hcmp]
      replace hown := OwnI.keep hown hbi
      replace hB := belowT hbi hB
      have hbs2 := hB.size
      clear hbi hbs hcmp
      have hcmp : strB s k = strB s k := rfl
      cases hcb : strB s k
      · rw [hcb] at hcmp
        have HE := Lib.hid (strM_no hk3 hcb)
        clear hcb
        go_wp2_with fail
        go_roundw
        case rel => exact ⟨k + 1, by omega, by omega, by go_num, ⟨_, _, _, rfl, by rw [HE.out]; exact hown⟩, hB⟩
        case measure => simp [intOf]; omega
      · rw [hcb] at hcmp
        have HE := Lib.hid (strM_yes hk3 hcb)
        clear hcb
        go_wp2_with (at_builtin; refine wpList_append_own _ rfl _ _ 34 rfl w.heap.size 2 i0 (.int .i64 0) 1 8 Try.underlying34 hi0 hz0 hz1 hz2 rfl (by decide) _ _ _ rfl (hown.alloc _) ⟨_, 0, none⟩ 1 1 [.int .i64 (k : Int)] rfl rfl (cell_one_new _ _ _) (ints_oneCell .i64 [(k : Int)]) (by unfold maxLen; omega) (by omega) (by simp; omega) ?_; intro v1 w1 hown1 hgrow1 _)
        go_roundw
        case rel =>
          obtain ⟨C', p', rfl, hown'⟩ := own_app hown1
          exact ⟨k + 1, by omega, by omega, by go_num, ⟨_, _, _, rfl, by rw [HE.out]; exact hown'⟩, below_app hB hown hgrow1⟩
        case measure => simp [intOf]; omega
    · have d1 : decide (k ≤ n) = false := decide_eq_false hlt
      have d2 : ¬ (k : Int) ≤ (n : Int) := by omega
      have he : strM s k = strL s (n - 2) := by unfold strM; rw [show k - 3 = n - 2 by omega]
      rw [he] at hown
      clear he
      go_wp2
      go_ret2
      exact ⟨_, _, _, by rw [HV.out]; rfl, by rw [HV.out]; exact hown, hB⟩
end Go.Proofs.Ytipelbhikomkiaa
