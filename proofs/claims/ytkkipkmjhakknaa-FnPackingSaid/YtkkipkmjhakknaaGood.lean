/- Contracts about goods: validity, weights, moments. -/
import Derived.Test.YtkkipkmjhakknaaRecGood
namespace Go.Proofs.Ytkkipkmjhakknaa
open Go.RowKit
set_option linter.unusedVariables false
set_option linter.unusedSimpArgs false

theorem isPlaceG_any (n : Int) (w : World) : Calls Try.prog 53 #[.int .i64 n] w fun e w' => e = .returned (.bool (inB n 0 1000)) ∧ w = w' := by
  go_enter Try.func53, Try.ntmps53
  go_wp2_with (go_at_call 61; refine (within_any _ _ _ _).mono ?_; rintro e w' ⟨rfl, rfl⟩)
  go_ret
  exact ⟨rfl, rfl⟩
theorem l14Place_any (n : Int) (w : World) : Calls Try.prog 71 #[.int .i64 n] w fun e w' => e = .returned (.bool (inB n 0 1000)) ∧ w = w' := by
  go_enter Try.func71, Try.ntmps71
  go_wp2_with (go_at_call 69; refine (l00In_any _ _ _ _).mono ?_; rintro e w' ⟨rfl, rfl⟩)
  go_ret
  exact ⟨rfl, rfl⟩

def okG (x : R2) : Bool := inB x.1 1 10000 && inB x.2 0 1000
theorem okG_iff (x : R2) : okG x = true ↔ (1 ≤ x.1 ∧ x.1 ≤ 10000) ∧ (0 ≤ x.2 ∧ x.2 ≤ 1000) := by simp [okG, inB_iff]
def okGs (cs : List R2) : Bool := cs.all okG && decide (cs.length ≤ 10)
def OkTillG (cs : List R2) (k : Nat) : Prop := ∀ j x, j < k → cs[j]? = some x → okG x = true
theorem okTillG_succ {cs : List R2} {k : Nat} {x : R2} (h : OkTillG cs k) (hx : cs[k]? = some x) (ho : okG x = true) : OkTillG cs (k + 1) := fun j y hj hy => by
  rcases Nat.lt_succ_iff_lt_or_eq.1 hj with h1 | rfl
  · exact h j y h1 hy
  · rw [hx] at hy; injection hy with hy; subst hy; exact ho
theorem okGs_bad {cs : List R2} {k : Nat} {x : R2} (hx : cs[k]? = some x) (ho : okG x = false) : okGs cs = false := by
  unfold okGs
  have : cs.all okG = false := by rw [List.all_eq_false]; exact ⟨x, List.mem_of_getElem? hx, by simpa using ho⟩
  rw [this]; rfl
theorem okGs_len {cs : List R2} {n : Nat} (hn : cs.length = n) (h : OkTillG cs n) : okGs cs = decide (n ≤ 10) := by
  unfold okGs
  have : cs.all okG = true := by
    rw [List.all_eq_true]
    intro x hx
    obtain ⟨j, hj, rfl⟩ := List.mem_iff_getElem.1 hx
    exact h j _ (by omega) (List.getElem?_eq_getElem hj)
  rw [this, hn]; rfl
theorem okGs_iff {cs : List R2} : okGs cs = true ↔ (∀ x ∈ cs, okG x = true) ∧ cs.length ≤ 10 := by
  simp [okGs]
theorem okG_bd {cs : List R2} (h : okGs cs = true) {j : Nat} {x : R2} (hx : cs[j]? = some x) : (1 ≤ x.1 ∧ x.1 ≤ 10000) ∧ (0 ≤ x.2 ∧ x.2 ≤ 1000) :=
  (okG_iff x).1 ((okGs_iff.1 h).1 x (List.mem_of_getElem? hx))

theorem validGoods_any (A : Option Addr) (n c : Nat) (cs : List R2) (w : World) (h : Recs w A n cs) (hn : n ≤ 1048576) : Calls Try.prog 29 #[.slice A n c] w fun e w' => e = .returned (.bool (okGs cs)) ∧ Below w.heap.size w w' := by
  have HL := Lib.hid h.1
  go_enter Try.func29, Try.ntmps29
  go_wp2
  go_loopw [7] (fun i wr => ∃ k : Nat, k ≤ n ∧ i = .int .i64 k ∧ OkTillG cs k ∧ Below w.heap.size w wr) (fun i _ => n - (intOf i).toNat)
  case atStart => exact ⟨0, Nat.zero_le _, rfl, fun j x hj _ => absurd hj (by omega), Below.refl _ _⟩
  case round =>
    obtain ⟨k, hk, rfl, he, hbw⟩ := hrel
    by_cases hlt : k < n
    · obtain ⟨b, off, x, rfl, hblt, hx, hc0, hc1⟩ := (h.keep hbw).at_ hlt
      have Hx := Lib.hid hx
      clear hx
      cases g1 : inB x.1 1 10000
      · go_wp2_with (first | (go_at_call 61; refine (within_any _ _ _ _).mono ?_; rintro e w' ⟨rfl, rfl⟩) | (go_at_call 53; refine (isPlaceG_any _ _).mono ?_; rintro e w' ⟨rfl, rfl⟩))
        go_ret
        exact ⟨ret_bool (okGs_bad Hx.out (by simp [okG, g1])).symm, hbw.alloc hbw.size _⟩
      cases g2 : inB x.2 0 1000
      · go_wp2_with (first | (go_at_call 61; refine (within_any _ _ _ _).mono ?_; rintro e w' ⟨rfl, rfl⟩) | (go_at_call 53; refine (isPlaceG_any _ _).mono ?_; rintro e w' ⟨rfl, rfl⟩))
        go_ret
        exact ⟨ret_bool (okGs_bad Hx.out (by simp [okG, g1, g2])).symm, hbw.alloc hbw.size _⟩
      · go_wp2_with (first | (go_at_call 61; refine (within_any _ _ _ _).mono ?_; rintro e w' ⟨rfl, rfl⟩) | (go_at_call 53; refine (isPlaceG_any _ _).mono ?_; rintro e w' ⟨rfl, rfl⟩))
        go_roundw
        case rel => exact ⟨k + 1, by omega, by go_num, okTillG_succ he Hx.out (by simp [okG, g1, g2]), hbw.alloc hbw.size _⟩
        case measure => simp [intOf]; omega
    · obtain rfl : k = n := by omega
      go_wp2
      go_ret
      exact ⟨ret_bool (by rw [okGs_len HL.out he, Bool.eq_iff_iff]; simp; omega), hbw⟩

theorem l14Ok_any (A : Option Addr) (n c : Nat) (cs : List R2) (w : World) (h : Recs w A n cs) (hn : n ≤ 1048576) : Calls Try.prog 66 #[.slice A n c] w fun e w' => e = .returned (.bool (okGs cs)) ∧ w = w' := by
  have HL := Lib.hid h.1
  go_enter Try.func66, Try.ntmps66
  go_wp2
  go_loop [3] (fun i => ∃ k : Nat, k ≤ n ∧ i = .int .i64 k ∧ OkTillG cs k) (fun i => n - (intOf i).toNat)
  case atStart => exact ⟨0, Nat.zero_le _, rfl, fun j x hj _ => absurd hj (by omega)⟩
  case round =>
    obtain ⟨k, hk, rfl, he⟩ := hrel
    by_cases hlt : k < n
    · obtain ⟨b, off, x, rfl, hblt, hx, hc0, hc1⟩ := h.at_ hlt
      have Hx := Lib.hid hx
      clear hx
      cases g1 : inB x.1 1 10000
      · go_wp2_with (first | (go_at_call 69; refine (l00In_any _ _ _ _).mono ?_; rintro e w' ⟨rfl, rfl⟩) | (go_at_call 71; refine (l14Place_any _ _).mono ?_; rintro e w' ⟨rfl, rfl⟩))
        go_ret
        exact ⟨ret_bool (okGs_bad Hx.out (by simp [okG, g1])).symm, rfl⟩
      cases g2 : inB x.2 0 1000
      · go_wp2_with (first | (go_at_call 69; refine (l00In_any _ _ _ _).mono ?_; rintro e w' ⟨rfl, rfl⟩) | (go_at_call 71; refine (l14Place_any _ _).mono ?_; rintro e w' ⟨rfl, rfl⟩))
        go_ret
        exact ⟨ret_bool (okGs_bad Hx.out (by simp [okG, g1, g2])).symm, rfl⟩
      · go_wp2_with (first | (go_at_call 69; refine (l00In_any _ _ _ _).mono ?_; rintro e w' ⟨rfl, rfl⟩) | (go_at_call 71; refine (l14Place_any _ _).mono ?_; rintro e w' ⟨rfl, rfl⟩))
        go_round
        case rel => exact ⟨k + 1, by omega, by go_num, okTillG_succ he Hx.out (by simp [okG, g1, g2])⟩
        case measure => simp [intOf]; omega
    · obtain rfl : k = n := by omega
      go_wp2
      go_ret
      exact ⟨ret_bool (by rw [okGs_len HL.out he, Bool.eq_iff_iff]; simp; omega), rfl⟩
theorem l14Ok_eq (A : Option Addr) (n c : Nat) (cs : List R2) (v : Bool) (w : World) (h : Recs w A n cs) (hn : n ≤ 1048576) (hv : okGs cs = v) : Calls Try.prog 66 #[.slice A n c] w fun e w' => e = .returned (.bool v) ∧ w = w' := by
  subst hv; exact l14Ok_any A n c cs w h hn
theorem validGoods_eq (A : Option Addr) (n c : Nat) (cs : List R2) (v : Bool) (w : World) (h : Recs w A n cs) (hn : n ≤ 1048576) (hv : okGs cs = v) : Calls Try.prog 29 #[.slice A n c] w fun e w' => e = .returned (.bool v) ∧ Below w.heap.size w w' := by
  subst hv; exact validGoods_any A n c cs w h hn
theorem specValidGoods_any (A : Option Addr) (n c : Nat) (cs : List R2) (w : World) (h : Recs w A n cs) (hn : n ≤ 1048576) : Calls Try.prog 27 #[.slice A n c] w fun e w' => e = .returned (.bool (okGs cs)) ∧ Below w.heap.size w w' := by
  go_enter Try.func27, Try.ntmps27
  go_wp2_with (go_at_call 66; refine (l14Ok_any _ _ _ _ _ h hn).mono ?_; rintro e w2 ⟨rfl, rfl⟩)
  go_ret
  exact ⟨rfl, Below.refl _ _⟩
theorem law_FnExactValidGoods (w : World) (A : Option Addr) (n c : Nat) (cs : List R2) (h0 : IsRecs2 w A n cs)  : Calls Try.prog 4 #[.slice A n c] w fun e w' => e = .returned (.bool true) ∧ Below w.heap.size w w' := by
  have hm := h0.1
  unfold maxLen at hm
  have h := h0.2.1
  by_cases hbig : 1048576 < n
  · have h' : (1048576 : Int) < (n : Int) := by omega
    go_enter Try.func4, Try.ntmps4
    go_wp2_with (go_at_call 26; refine (szGoodS_big _ _ _ _ _ (by omega) (by omega) (by omega) (by omega)).mono ?_; rintro e w' ⟨rfl, rfl⟩)
    go_ret
    exact ⟨rfl, Below.refl _ _⟩
  have hn : n ≤ 1048576 := by omega
  have h' : ¬ (1048576 : Int) < (n : Int) := by omega
  have e1 : decide (cs = cs) = true := by simp
  go_enter Try.func4, Try.ntmps4
  go_wp2_with (go_at_call 26; refine (szGoodS_small _ _ _ _ _ (by omega) (by omega)).mono ?_; rintro e w' ⟨rfl, rfl⟩)
  refine (toGoodS_any _ _ _ _ _ h hn).mono ?_
  rintro e w1 ⟨rfl, ho1, hb1⟩
  go_wp2_with fail
  refine (specValidGoods_any _ _ _ _ _ ho1.recs hn).mono ?_
  rintro e w2 ⟨rfl, hb2⟩
  have hB2 := belowT hb2 hb1
  go_wp2_with fail
  refine (toGoodS_any _ _ _ _ _ (h.keep hB2) hn).mono ?_
  rintro e w3 ⟨rfl, ho3, hb3⟩
  have hB3 := belowT hb3 hB2
  go_wp2_with fail
  refine (validGoods_any _ _ _ _ _ ho3.recs hn).mono ?_
  rintro e w5 ⟨rfl, hb5⟩
  have hB5 := belowT hb5 hB3
  go_wp2_with fail
  refine (toGoodS_any _ _ _ _ _ (h.keep hB5) hn).mono ?_
  rintro e w7 ⟨rfl, ho7, hb7⟩
  have hB7 := belowT hb7 hB5
  go_wp2_with fail
  refine (eqGoodS_any _ _ _ _ _ _ _ _ _ ((ho3.recs.keep hb5).keep hb7) ho7.recs hn hn).mono ?_
  rintro e w' ⟨rfl, hb9⟩
  go_wp2
  go_ret
  exact ⟨rfl, belowT hb9 hB7⟩

def weightI : List R2 → Int
  | [] => 0
  | x :: xs => x.1 + weightI xs
def momentI (a : Int) : List R2 → Int
  | [] => 0
  | x :: xs => x.1 * (x.2 - a) + momentI a xs
theorem weightI_snoc (xs : List R2) (x : R2) : weightI (xs ++ [x]) = weightI xs + x.1 := by
  induction xs with
  | nil => simp [weightI]
  | cons y ys ih => simp only [List.cons_append, weightI, ih]; omega
theorem momentI_snoc (a : Int) (xs : List R2) (x : R2) : momentI a (xs ++ [x]) = momentI a xs + x.1 * (x.2 - a) := by
  induction xs with
  | nil => simp [momentI]
  | cons y ys ih => simp only [List.cons_append, momentI, ih]; omega
theorem take_snoc' {α : Type} {cs : List α} {k : Nat} {x : α} (h : cs[k]? = some x) : cs.take (k + 1) = cs.take k ++ [x] := by
  rw [List.take_add_one, h]; rfl
theorem mulabs {x y A B : Int} (x0 : 0 ≤ x) (x1 : x ≤ A) (y0 : -B ≤ y) (y1 : y ≤ B) : -(A * B) ≤ x * y ∧ x * y ≤ A * B := by
  have hA : 0 ≤ A := by omega
  have hB : 0 ≤ B := by omega
  have h1 : x * y ≤ x * B := Int.mul_le_mul_of_nonneg_left y1 x0
  have h2 : x * (-B) ≤ x * y := Int.mul_le_mul_of_nonneg_left y0 x0
  have h3 : x * B ≤ A * B := Int.mul_le_mul_of_nonneg_right x1 hB
  rw [Int.mul_neg] at h2
  omega
theorem weight_bd {cs : List R2} (ho : okGs cs = true) : ∀ k : Nat, k ≤ cs.length → k ≤ weightI (cs.take k) ∧ weightI (cs.take k) ≤ k * 10000
  | 0, _ => by simp [weightI]
  | k + 1, hk => by
    obtain ⟨a, b⟩ := weight_bd ho k (by omega)
    have hx : cs[k]? = some (cs[k]'(by omega)) := List.getElem?_eq_getElem _
    obtain ⟨x1, x2⟩ := okG_bd ho hx
    rw [take_snoc' hx, weightI_snoc]
    omega
theorem moment_bd {cs : List R2} (ho : okGs cs = true) {a : Int} (ha : 0 ≤ a ∧ a ≤ 1000) : ∀ k : Nat, k ≤ cs.length → -(k * 10000000) ≤ momentI a (cs.take k) ∧ momentI a (cs.take k) ≤ k * 10000000
  | 0, _ => by simp [momentI]
  | k + 1, hk => by
    obtain ⟨p, q⟩ := moment_bd ho ha k (by omega)
    have hx : cs[k]? = some (cs[k]'(by omega)) := List.getElem?_eq_getElem _
    obtain ⟨x1, x2⟩ := okG_bd ho hx
    rw [take_snoc' hx, momentI_snoc]
    have := mulabs (x := (cs[k]'(by omega)).1) (y := (cs[k]'(by omega)).2 - a) (A := 10000) (B := 1000) (by omega) (by omega) (by omega) (by omega)
    omega

theorem weightOf_any (A : Option Addr) (n c : Nat) (cs : List R2) (w : World) (h : Recs w A n cs) (hn : n ≤ 1048576) (ho : okGs cs = true) : Calls Try.prog 63 #[.slice A n c] w fun e w' => e = .returned (.int .i64 (weightI cs)) ∧ Below w.heap.size w w' := by
  have HB := Lib.hid (weight_bd ho)
  have HL := Lib.hid h.1
  have hle := (okGs_iff.1 ho).2
  go_enter Try.func63, Try.ntmps63
  go_wp2
  go_loopw [3, 8] (fun p i wr => ∃ k : Nat, k ≤ n ∧ i = .int .i64 k ∧ p = .int .i64 (weightI (cs.take k)) ∧ Below w.heap.size w wr) (fun _ i _ => n - (intOf i).toNat)
  case atStart => exact ⟨0, Nat.zero_le _, rfl, by simp [weightI], Below.refl _ _⟩
  case round =>
    obtain ⟨k, hk, rfl, rfl, hbw⟩ := hrel
    have hbk := HB.out k (by rw [HL.out]; exact hk)
    have hn60 : n ≤ 10 := by rw [← HL.out]; exact hle
    by_cases hlt : k < n
    · obtain ⟨b, off, x, rfl, hblt, hx, hc0, hc1⟩ := (h.keep hbw).at_ hlt
      obtain ⟨x1, x2⟩ := okG_bd ho hx
      have hs1 : weightI (cs.take (k + 1)) = weightI (cs.take k) + x.1 := by rw [take_snoc' hx, weightI_snoc]
      have H1 := Lib.hid hs1
      clear hs1 hx
      go_wp2
      go_roundw
      case rel => exact ⟨k + 1, by omega, by go_num, by rw [H1.out], hbw.alloc hbw.size _⟩
      case measure => simp [intOf]; omega
    · obtain rfl : k = n := by omega
      go_wp2
      go_ret
      exact ⟨ret_int (by rw [List.take_of_length_le (by rw [HL.out]; omega)]), hbw⟩
theorem l14Weight_any (A : Option Addr) (n c : Nat) (cs : List R2) (w : World) (h : Recs w A n cs) (hn : n ≤ 1048576) (ho : okGs cs = true) : Calls Try.prog 70 #[.slice A n c] w fun e w' => e = .returned (.int .i64 (weightI cs)) ∧ w = w' := by
  have HB := Lib.hid (weight_bd ho)
  have HL := Lib.hid h.1
  have hle := (okGs_iff.1 ho).2
  go_enter Try.func70, Try.ntmps70
  go_wp2
  go_loop [3, 4] (fun p i => ∃ k : Nat, k ≤ n ∧ i = .int .i64 k ∧ p = .int .i64 (weightI (cs.take k))) (fun _ i => n - (intOf i).toNat)
  case atStart => exact ⟨0, Nat.zero_le _, rfl, by simp [weightI]⟩
  case round =>
    obtain ⟨k, hk, rfl, rfl⟩ := hrel
    have hbk := HB.out k (by rw [HL.out]; exact hk)
    have hn60 : n ≤ 10 := by rw [← HL.out]; exact hle
    by_cases hlt : k < n
    · obtain ⟨b, off, x, rfl, hblt, hx, hc0, hc1⟩ := h.at_ hlt
      obtain ⟨x1, x2⟩ := okG_bd ho hx
      have hs1 : weightI (cs.take (k + 1)) = weightI (cs.take k) + x.1 := by rw [take_snoc' hx, weightI_snoc]
      have H1 := Lib.hid hs1
      clear hs1 hx
      go_wp2
      go_round
      case rel => exact ⟨k + 1, by omega, by go_num, by rw [H1.out]⟩
      case measure => simp [intOf]; omega
    · obtain rfl : k = n := by omega
      go_wp2
      go_ret
      exact ⟨ret_int (by rw [List.take_of_length_le (by rw [HL.out]; omega)]), rfl⟩
theorem momentOf_any (A : Option Addr) (n c : Nat) (cs : List R2) (a : Int) (w : World) (h : Recs w A n cs) (hn : n ≤ 1048576) (ho : okGs cs = true) (ha : 0 ≤ a ∧ a ≤ 1000) : Calls Try.prog 60 #[.slice A n c, .int .i64 a] w fun e w' => e = .returned (.int .i64 (momentI a cs)) ∧ Below w.heap.size w w' := by
  have HB := Lib.hid (moment_bd ho ha)
  have HL := Lib.hid h.1
  have hle := (okGs_iff.1 ho).2
  go_enter Try.func60, Try.ntmps60
  go_wp2
  go_loopw [5, 10] (fun p i wr => ∃ k : Nat, k ≤ n ∧ i = .int .i64 k ∧ p = .int .i64 (momentI a (cs.take k)) ∧ Below w.heap.size w wr) (fun _ i _ => n - (intOf i).toNat)
  case atStart => exact ⟨0, Nat.zero_le _, rfl, by simp [momentI], Below.refl _ _⟩
  case round =>
    obtain ⟨k, hk, rfl, rfl, hbw⟩ := hrel
    have hbk := HB.out k (by rw [HL.out]; exact hk)
    have hn60 : n ≤ 10 := by rw [← HL.out]; exact hle
    by_cases hlt : k < n
    · obtain ⟨b, off, x, rfl, hblt, hx, hc0, hc1⟩ := (h.keep hbw).at_ hlt
      obtain ⟨x1, x2⟩ := okG_bd ho hx
      have hmb := mulabs (x := x.1) (y := x.2 - a) (A := 10000) (B := 1000) (by omega) (by omega) (by omega) (by omega)
      have hs1 : momentI a (cs.take (k + 1)) = momentI a (cs.take k) + x.1 * (x.2 - a) := by rw [take_snoc' hx, momentI_snoc]
      have H1 := Lib.hid hs1
      clear hs1 hx
      go_wp2
      go_roundw
      case rel => exact ⟨k + 1, by omega, by go_num, by rw [H1.out], hbw.alloc hbw.size _⟩
      case measure => simp [intOf]; omega
    · obtain rfl : k = n := by omega
      go_wp2
      go_ret
      exact ⟨ret_int (by rw [List.take_of_length_le (by rw [HL.out]; omega)]), hbw⟩
theorem l14Moment_any (A : Option Addr) (n c : Nat) (cs : List R2) (a : Int) (w : World) (h : Recs w A n cs) (hn : n ≤ 1048576) (ho : okGs cs = true) (ha : 0 ≤ a ∧ a ≤ 1000) : Calls Try.prog 73 #[.slice A n c, .int .i64 a] w fun e w' => e = .returned (.int .i64 (momentI a cs)) ∧ ∃ q, w' = w.drewN q := by
  have HB := Lib.hid (moment_bd ho ha)
  have HL := Lib.hid h.1
  have hle := (okGs_iff.1 ho).2
  go_enter Try.func73, Try.ntmps73
  go_wp2
  go_loopw [5, 6] (fun p i wr => ∃ k : Nat, k ≤ n ∧ i = .int .i64 k ∧ p = .int .i64 (momentI a (cs.take k)) ∧ ∃ q, wr = w.drewN q) (fun _ i _ => n - (intOf i).toNat)
  case atStart => exact ⟨0, Nat.zero_le _, rfl, by simp [momentI], 0, rfl⟩
  case round =>
    obtain ⟨k, hk, rfl, rfl, nw, rfl⟩ := hrel
    have hbk := HB.out k (by rw [HL.out]; exact hk)
    have hn60 : n ≤ 10 := by rw [← HL.out]; exact hle
    by_cases hlt : k < n
    · obtain ⟨b, off, x, rfl, hblt, hx, hc0, hc1⟩ := h.at_ hlt
      obtain ⟨x1, x2⟩ := okG_bd ho hx
      have hmb := mulabs (x := x.1) (y := x.2 - a) (A := 10000) (B := 1000) (by omega) (by omega) (by omega) (by omega)
      have hs1 : momentI a (cs.take (k + 1)) = momentI a (cs.take k) + x.1 * (x.2 - a) := by rw [take_snoc' hx, momentI_snoc]
      have H1 := Lib.hid hs1
      have k0 : (0 : Int) ≤ (k : Int) := by omega
      have k1 : (k : Int) < (n : Int) := by omega
      clear hs1 hx
      go_wp2
      go_quiet (fail)
      go_wp2
      go_roundw
      case rel => exact ⟨k + 1, by omega, by go_num, by rw [H1.out], (by first | exact ⟨_, rfl⟩ | exact drew2 _ _ _ | exact ⟨0, rfl⟩)⟩
      case measure => simp [intOf]; omega
    · obtain rfl : k = n := by omega
      go_wp2
      go_ret
      exact ⟨ret_int (by rw [List.take_of_length_le (by rw [HL.out]; omega)]), (by first | exact ⟨_, rfl⟩ | exact drew2 _ _ _ | exact ⟨0, rfl⟩)⟩
theorem momentAll_bd {cs : List R2} (ho : okGs cs = true) {a : Int} (ha : 0 ≤ a ∧ a ≤ 1000) : -100000000 ≤ momentI a cs ∧ momentI a cs ≤ 100000000 := by
  have hle := (okGs_iff.1 ho).2
  have h := moment_bd ho ha cs.length (Nat.le_refl _)
  rw [List.take_length] at h
  omega
theorem weightAll_bd {cs : List R2} (ho : okGs cs = true) : cs.length ≤ weightI cs ∧ weightI cs ≤ 100000 := by
  have hle := (okGs_iff.1 ho).2
  have h := weight_bd ho cs.length (Nat.le_refl _)
  rw [List.take_length] at h
  omega
end Go.Proofs.Ytkkipkmjhakknaa
