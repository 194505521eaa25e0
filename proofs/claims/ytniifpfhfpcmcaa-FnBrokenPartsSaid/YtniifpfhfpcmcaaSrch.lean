/- slices.BinarySearch and slices.Clone at int64. -/
import Derived.Test.YtniifpfhfpcmcaaIns
import Derived.Lib.SliceRun
import Derived.Laws.Entries
import Derived.Laws.BitsLemmas
import Derived.Laws.Bits64
namespace Go.Proofs.Ytniifpfhfpcmcaa
open Go.RowKit
set_option linter.unusedVariables false
set_option linter.unusedSimpArgs false

theorem nanC_any (x : Int) (w : World) : Calls Try.prog 74 #[.int .i64 x] w fun e w' => e = .returned (.bool false) ∧ w = w' := by
  go_enter Try.func74, Try.ntmps74
  go_wp2
  go_ret
  exact ⟨by simp, rfl⟩
theorem nanS_any (x : Int) (w : World) : Calls Try.prog 67 #[.int .i64 x] w fun e w' => e = .returned (.bool false) ∧ w = w' := by
  go_enter Try.func67, Try.ntmps67
  go_wp2
  go_ret
  exact ⟨by simp, rfl⟩
theorem less_any (x y : Int) (v : Bool) (w : World) (h : decide (x < y) = v) : Calls Try.prog 66 #[.int .i64 x, .int .i64 y] w fun e w' => e = .returned (.bool v) ∧ w = w' := by
  subst h
  go_enter Try.func66, Try.ntmps66
  go_wp2_with (go_at_call 74; refine (nanC_any _ _).mono ?_; rintro e w' ⟨rfl, rfl⟩)
  go_ret
  exact ⟨rfl, rfl⟩
def SrchPost (zs : List Int) (n : Nat) (x : Int) (w : World) (e : Ending) (w' : World) : Prop :=
  ∃ i : Nat, i ≤ n ∧ e = .returned (.tuple #[.int .i64 i, .bool (hasI zs x)]) ∧ (∀ (j : Nat) (z : Int), j < i → zs[j]? = some z → z < x) ∧ (∀ (j : Nat) (z : Int), i ≤ j → zs[j]? = some z → x ≤ z) ∧ ∃ q, w' = w.drewN q
theorem has_at {zs : List Int} {i : Nat} {x y : Int} (h1 : ∀ (j : Nat) (z : Int), j < i → zs[j]? = some z → z < x) (hp : zs.Pairwise (· < ·)) (hy : zs[i]? = some y) (hle : x ≤ y) : hasI zs x = decide (y = x) := by
  by_cases e : y = x
  · rw [decide_eq_true e]; exact hasI_yes hy e
  · rw [decide_eq_false e]
    unfold hasI
    rw [decide_eq_false_iff_not]
    intro hm
    obtain ⟨j, hj, ej⟩ := List.mem_iff_getElem.1 hm
    have hj' : zs[j]? = some x := by rw [List.getElem?_eq_getElem hj, ej]
    obtain ⟨hi, ei⟩ := List.getElem?_eq_some_iff.1 hy
    rcases Nat.lt_trichotomy j i with h | h | h
    · have := h1 j x h hj'; omega
    · subst h; rw [hy] at hj'; injection hj' with hj'; exact e hj'
    · have := List.pairwise_iff_getElem.1 hp i j hi hj h
      omega
theorem has_none {zs : List Int} {i : Nat} {x : Int} (h1 : ∀ (j : Nat) (z : Int), j < i → zs[j]? = some z → z < x) (hl : zs.length ≤ i) : hasI zs x = false := by
  unfold hasI
  rw [decide_eq_false_iff_not]
  intro hm
  obtain ⟨j, hj, ej⟩ := List.mem_iff_getElem.1 hm
  have := h1 j x (by omega) (by rw [List.getElem?_eq_getElem hj, ej])
  omega
theorem rise_le {zs : List Int} (hp : zs.Pairwise (· < ·)) {i j : Nat} {y z : Int} (hy : zs[i]? = some y) (hz : zs[j]? = some z) (h : i ≤ j) : y ≤ z := by
  obtain ⟨hi, ei⟩ := List.getElem?_eq_some_iff.1 hy
  obtain ⟨hj, ej⟩ := List.getElem?_eq_some_iff.1 hz
  rcases Nat.lt_or_eq_of_le h with h1 | rfl
  · have := List.pairwise_iff_getElem.1 hp i j hi hj h1
    omega
  · rw [hy] at hz; injection hz with hz; omega
set_option maxHeartbeats 2000000 in
set_option maxRecDepth 100000 in
theorem search_any (A : Option Addr) (n c : Nat) (zs : List Int) (x : Int) (w : World) (h : Ints w A n zs) (hn : n ≤ 1048576) (hp : zs.Pairwise (· < ·)) : Calls Try.prog 51 #[.slice A n c, .int .i64 x] w (SrchPost zs n x w) := by
  have HL := Lib.hid h.1
  have HP := Lib.hid hp
  clear hp
  go_enter Try.func51, Try.ntmps51
  go_wp2
  go_loopw [7, 8] (fun a b wr => ∃ lo hi q : Nat, a = .int .i64 lo ∧ b = .int .i64 hi ∧ lo ≤ hi ∧ hi ≤ n ∧ Hid (∀ (j : Nat) (z : Int), j < lo → zs[j]? = some z → z < x) ∧ Hid (∀ (j : Nat) (z : Int), hi ≤ j → zs[j]? = some z → x ≤ z) ∧ wr = w.drewN q) (fun a b _ => (intOf b).toNat - (intOf a).toNat)
  case atStart => exact ⟨0, n, 0, rfl, rfl, Nat.zero_le _, Nat.le_refl _, Lib.hid (fun j z hj => absurd hj (Nat.not_lt_zero _)), Lib.hid (fun j z hj hz => by have := (List.getElem?_eq_some_iff.1 hz).1; have := HL.out; omega), rfl⟩
  case round =>
    obtain ⟨lo, hi, q, rfl, rfl, hlh, hin, H1, H2, rfl⟩ := hrel
    by_cases hlt : lo < hi
    · obtain ⟨m, hm⟩ : ∃ m : Nat, (lo + hi) / 2 = m := ⟨_, rfl⟩
      have hmid : ((lo : Int) + (hi : Int)) / 2 = (m : Int) := by omega
      have m1 : lo ≤ m := by omega
      have m2 : m < hi := by omega
      have m3 : m < n := by omega
      obtain ⟨b, off, y, rfl, hblt, hy, hcy⟩ := h.at_ m3
      have Hy := Lib.hid hy
      clear hy hm
      by_cases hyx : y < x
      · have hd : decide (y < x) = true := decide_eq_true hyx
        go_wp2_with (go_at_call 66; refine (less_any _ _ _ _ hd).mono ?_; rintro e w' ⟨rfl, rfl⟩)
        go_roundw
        case rel =>
          refine ⟨m + 1, hi, _, by go_num, rfl, by omega, hin, Lib.hid (fun j z hj hz => ?_), H2, by first | exact rfl | trivial⟩
          have := rise_le HP.out hz Hy.out (by omega)
          omega
        case measure => simp [intOf]; omega
      · have hd : decide (y < x) = false := decide_eq_false hyx
        go_wp2_with (go_at_call 66; refine (less_any _ _ _ _ hd).mono ?_; rintro e w' ⟨rfl, rfl⟩)
        go_roundw
        case rel =>
          refine ⟨lo, m, _, rfl, rfl, by omega, by omega, H1, Lib.hid (fun j z hj hz => ?_), by first | exact rfl | trivial⟩
          have := rise_le HP.out Hy.out hz hj
          omega
        case measure => simp [intOf]; omega
    · obtain rfl : lo = hi := by omega
      by_cases hn2 : lo < n
      · obtain ⟨b, off, y, rfl, hblt, hy, hcy⟩ := h.at_ hn2
        have hle := H2.out lo y (Nat.le_refl _) hy
        have HF := Lib.hid (has_at H1.out HP.out hy hle)
        clear hy
        by_cases hyx : y = x
        · have e1 : (y == x) = true := by rw [beq_iff_eq]; exact hyx
          rw [decide_eq_true hyx] at HF
          clear hyx
          go_wp2_with (go_at_call 67; refine (nanS_any _ _).mono ?_; rintro e w' ⟨rfl, rfl⟩)
          go_ret2
          exact ⟨lo, hin, by rw [HF.out]; rfl, H1.out, H2.out, (by first | exact ⟨_, rfl⟩ | exact drew2 _ _ _ | exact ⟨0, rfl⟩)⟩
        · have e1 : (y == x) = false := by rw [beq_eq_false_iff_ne]; exact hyx
          rw [decide_eq_false hyx] at HF
          go_wp2_with (go_at_call 67; refine (nanS_any _ _).mono ?_; rintro e w' ⟨rfl, rfl⟩)
          go_ret2
          exact ⟨lo, hin, by rw [HF.out]; rfl, H1.out, H2.out, (by first | exact ⟨_, rfl⟩ | exact drew2 _ _ _ | exact ⟨0, rfl⟩)⟩
      · have HF := Lib.hid (has_none H1.out (by rw [HL.out]; omega))
        go_wp2_with (go_at_call 67; refine (nanS_any _ _).mono ?_; rintro e w' ⟨rfl, rfl⟩)
        go_ret2
        exact ⟨lo, hin, by rw [HF.out]; rfl, H1.out, H2.out, (by first | exact ⟨_, rfl⟩ | exact drew2 _ _ _ | exact ⟨0, rfl⟩)⟩
/-- A copy of a slice of integers. -/
theorem cloneI_any (A : Option Addr) (n c : Nat) (zs : List Int) (w : World) (h : Ints w A n zs) (hn : n ≤ 1048576) : Calls Try.prog 53 #[.slice A n c] w fun e w' =>
    ∃ C p, e = .returned (.slice C n p) ∧ OwnI w' w.heap.size (.slice C n p) n zs ∧ Below w.heap.size w w' := by
  obtain ⟨i0, hi0, hz0, hz1, hz2⟩ := info_parts info_i64
  have q22 : ∀ (w : World) (a : Option Addr) (n c n' c' : Nat), (binOp .eql 22 (.slice a n c) (.slice none n' c')).run Try.prog w = .ok (.bool a.isNone) w := fun w a n c n' c' => Lib.run_eql_slice_nil w _ _ a n c n' c' Try.underlying22
  have HL := Lib.hid h.1
  have hb0 : Below w.heap.size w (w.alloc (.cells #[] 2)) := (Below.refl _ _).alloc (Nat.le_refl _) _
  cases A with
  | none =>
    have hn0 : n = 0 := by
      rcases Nat.eq_zero_or_pos n with h1 | h1
      · exact h1
      · obtain ⟨b, off, e, _⟩ := h.2 h1; cases e
    subst hn0
    have hz : zs = [] := List.eq_nil_of_length_eq_zero HL.out
    subst hz
    go_enter Try.func53, Try.ntmps53
    go_wp2
    go_ret
    exact ⟨_, _, rfl, World.ownsRow_nil _ _ _ _, Below.refl _ _⟩
  | some a =>
    rcases Nat.eq_zero_or_pos n with rfl | hp
    · have hz : zs = [] := List.eq_nil_of_length_eq_zero HL.out
      subst hz
      go_enter Try.func53, Try.ntmps53
      go_wp2
      go_ret
      exact ⟨_, _, rfl, World.ownsRow_made _ _ _ (by simp) (by unfold maxLen; omega) (by simp), by (repeat' (first | (with_reducible exact Below.refl _ _) | (with_reducible assumption) | (with_reducible refine Below.drew ?_) | (with_reducible refine below_drewN ?_ _) | (with_reducible refine Below.setCell ?_ ?_ _) | (with_reducible refine Below.alloc ?_ ?_ _) | go_size))⟩
    obtain ⟨b, off, e, hlt, hc⟩ := h.2 hp
    injection e with e
    subst e
    have HC := Lib.hid hc
    clear hc
    go_enter Try.func53, Try.ntmps53
    go_wp2_with (at_builtin; refine wpList_append_own _ rfl _ _ 22 rfl w.heap.size 2 i0 (.int .i64 0) 1 8 Try.underlying22 hi0 hz0 hz1 hz2 rfl (by decide) _ _ _ rfl (World.ownsRow_made w #[] 0 (Nat.le_refl _) (Nat.zero_le _) rfl) ⟨b, off, none⟩ n c (zs.map (Value.int .i64)) rfl ?qc1 ?qc2 ?qc3 ?qc4 ?qc5 ?qc6 ?_)
    case qc1 => simp [HL.out]
    case qc2 =>
      intro j u hj
      rw [List.getElem?_map] at hj
      obtain ⟨z, hz, rfl⟩ := Option.map_eq_some_iff.1 hj
      rw [Addr.add_lit]
      exact keepc hb0 (HC.out j z hz)
    case qc3 => intro u hu; obtain ⟨x, _, rfl⟩ := List.mem_map.1 hu; rfl
    case qc4 => unfold maxLen; omega
    case qc5 => omega
    case qc6 => simp
    intro v' w1 hown hgrow hnil
    go_wp2
    go_ret
    have hown' : OwnI w1 w.heap.size v' n zs := by simpa using hown
    have hBf := hb0.grown hgrow (by simp) (by intro k hk; simp [Value.ownBlock] at hk; omega)
    rcases hown'.2 with ⟨h1, h2⟩ | ⟨g, cap, cur, hv, _⟩
    · omega
    · subst hv
      exact ⟨_, _, rfl, hown', hBf⟩
end Go.Proofs.Ytniifpfhfpcmcaa
