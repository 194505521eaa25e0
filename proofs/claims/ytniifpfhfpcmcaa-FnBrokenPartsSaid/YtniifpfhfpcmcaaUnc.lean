/- UncoveredBy. -/
import Derived.Test.YtniifpfhfpcmcaaHas
namespace Go.Proofs.Ytniifpfhfpcmcaa
open Go.RowKit
set_option linter.unusedVariables false
set_option linter.unusedSimpArgs false

theorem risesB_in {zs : List Int} {lo hi : Int} {k : Nat} {z : Int} (h : risesB zs lo hi = true) (hz : zs[k]? = some z) : lo ≤ z ∧ z ≤ hi := by
  unfold risesB at h
  rw [List.all_eq_true] at h
  have hk := (List.getElem?_eq_some_iff.1 hz).1
  have h1 := h k (by simpa using hk)
  unfold riseAt at h1
  rw [getD_of hz] at h1
  exact (inB_iff _ _ _).1 (by revert h1; cases inB z lo hi <;> simp)
def uncB (s : Int) (gs : List Int) (z : Int) : Bool := !hasI gs z && !hasI gs ((z + s - 1) % s)
def uncV (s : Int) (zs gs : List Int) : List Int × Int := if okBrok s zs then (if risesB gs 0 (s - 1) then (zs.filter (uncB s gs), 0) else ([], 2)) else ([], 1)
theorem okBrok_iff {s : Int} {zs : List Int} : okBrok s zs = true ↔ (3 ≤ s ∧ s ≤ 60) ∧ risesB zs 0 (s - 1) = true := by
  unfold okBrok; rw [Bool.and_eq_true, inB_iff]
theorem implValidBroken_eq (s : Int) (A : Option Addr) (n c : Nat) (zs : List Int) (v : Bool) (w : World) (h : Ints w A n zs) (hn : n ≤ 1048576) (hv : okBrok s zs = v) : Calls Try.prog 15 #[.int .i64 s, .slice A n c] w fun e w' =>
    e = .returned (.bool v) ∧ ∃ q, w' = w.drewN q := by subst hv; exact implValidBroken_any _ _ _ _ _ _ h hn
theorem l16Ok_eq (s : Int) (A : Option Addr) (n c : Nat) (zs : List Int) (v : Bool) (w : World) (h : Ints w A n zs) (hn : n ≤ 1048576) (hv : okBrok s zs = v) : Calls Try.prog 41 #[.int .i64 s, .slice A n c] w fun e w' =>
    e = .returned (.bool v) ∧ ∃ q, w' = w.drewN q := by subst hv; exact l16Ok_any _ _ _ _ _ _ h hn
theorem rises_eq (A : Option Addr) (n c : Nat) (zs : List Int) (lo hi : Int) (v : Bool) (w : World) (h : Ints w A n zs) (hn : n ≤ 1048576) (hv : risesB zs lo hi = v) : Calls Try.prog 43 #[.slice A n c, .int .i64 lo, .int .i64 hi] w fun e w' =>
    e = .returned (.bool v) ∧ ∃ q, w' = w.drewN q := by subst hv; exact rises_any _ _ _ _ _ _ _ h hn
theorem l00Rises_eq (A : Option Addr) (n c : Nat) (zs : List Int) (lo hi : Int) (v : Bool) (w : World) (h : Ints w A n zs) (hn : n ≤ 1048576) (hv : risesB zs lo hi = v) : Calls Try.prog 54 #[.slice A n c, .int .i64 lo, .int .i64 hi] w fun e w' =>
    e = .returned (.bool v) ∧ ∃ q, w' = w.drewN q := by subst hv; exact l00Rises_any _ _ _ _ _ _ _ h hn
theorem filter_take_succ {α : Type} (p : α → Bool) {zs : List α} {k : Nat} {z : α} (hz : zs[k]? = some z) : (zs.take (k + 1)).filter p = (zs.take k).filter p ++ (if p z then [z] else []) := by
  rw [List.take_add_one, hz, List.filter_append]
  congr 1
  cases h : p z <;> simp [h]

theorem implUncoveredBy_any (s : Int) (A B : Option Addr) (n c m d : Nat) (zs gs : List Int) (w : World) (h : Ints w A n zs) (g : Ints w B m gs) (hn : n ≤ 1048576) (hm : m ≤ 1048576) : Calls Try.prog 21 #[.int .i64 s, .slice A n c, .slice B m d] w fun e w' =>
    ∃ C q p, e = .returned (.tuple #[.slice C q p, .int .i64 (uncV s zs gs).2]) ∧ OwnI w' w.heap.size (.slice C q p) q (uncV s zs gs).1 ∧ Below w.heap.size w w' := by
  obtain ⟨i0, hi0, hz0, hz1, hz2⟩ := info_parts info_i64
  cases ho : okBrok s zs
  · have hv : uncV s zs gs = ([], 1) := by simp [uncV, ho]
    rw [hv]
    clear hv
    go_enter Try.func21, Try.ntmps21
    go_wp2_with (go_at_call 15; refine (implValidBroken_eq _ _ _ _ _ _ _ h hn ho).mono ?_; rintro e w' ⟨rfl, q1, rfl⟩)
    go_ret2
    exact ⟨none, 0, 0, rfl, World.ownsRow_nil _ _ _ _, by (repeat' (first | (with_reducible exact Below.refl _ _) | (with_reducible assumption) | (with_reducible refine Below.drew ?_) | (with_reducible refine below_drewN ?_ _) | (with_reducible refine Below.setCell ?_ ?_ _) | (with_reducible refine Below.alloc ?_ ?_ _) | go_size))⟩
  obtain ⟨hs, hr⟩ := okBrok_iff.1 ho
  cases hg : risesB gs 0 (s - 1)
  · have hv : uncV s zs gs = ([], 2) := by simp [uncV, ho, hg]
    rw [hv]
    clear hv
    go_enter Try.func21, Try.ntmps21
    go_wp2_with (first | (go_at_call 15; refine (implValidBroken_eq _ _ _ _ _ _ _ h hn ho).mono ?_; rintro e w' ⟨rfl, q1, rfl⟩) | (go_at_call 43; refine (rises_eq _ _ _ _ _ _ _ _ (g.drewN _) hm hg).mono ?_; rintro e w' ⟨rfl, q2, rfl⟩))
    go_ret2
    exact ⟨none, 0, 0, rfl, World.ownsRow_nil _ _ _ _, by (repeat' (first | (with_reducible exact Below.refl _ _) | (with_reducible assumption) | (with_reducible refine Below.drew ?_) | (with_reducible refine below_drewN ?_ _) | (with_reducible refine Below.setCell ?_ ?_ _) | (with_reducible refine Below.alloc ?_ ?_ _) | go_size))⟩
  have hv : uncV s zs gs = (zs.filter (uncB s gs), 0) := by simp [uncV, ho, hg]
  rw [hv]
  clear hv
  have HL := Lib.hid h.1
  go_enter Try.func21, Try.ntmps21
  go_wp2_with (first | (go_at_call 15; refine (implValidBroken_eq _ _ _ _ _ _ _ h hn ho).mono ?_; rintro e w' ⟨rfl, q1, rfl⟩) | (go_at_call 43; refine (rises_eq _ _ _ _ _ _ _ _ (g.drewN _) hm hg).mono ?_; rintro e w' ⟨rfl, q2, rfl⟩))
  go_loopw [8, 23] (fun v i wr => ∃ k : Nat, k ≤ n ∧ i = .int .i64 k ∧ (∃ C q p, v = .slice C q p ∧ OwnI wr w.heap.size (.slice C q p) q ((zs.take k).filter (uncB s gs))) ∧ Below w.heap.size w wr) (fun _ i _ => n - (intOf i).toNat)
  case atStart =>
    refine ⟨0, Nat.zero_le _, rfl, ⟨_, _, _, rfl, ?_⟩, ?_⟩
    · exact World.ownsRow_made _ _ _ (by simp) (by unfold maxLen; omega) (by simp)
    · (repeat' (first | (with_reducible exact Below.refl _ _) | (with_reducible assumption) | (with_reducible refine Below.drew ?_) | (with_reducible refine below_drewN ?_ _) | (with_reducible refine Below.setCell ?_ ?_ _) | (with_reducible refine Below.alloc ?_ ?_ _) | go_size))
  case round =>
    obtain ⟨k, hk, rfl, ⟨C, q, p, rfl, hown⟩, hB⟩ := hrel
    have hql := OwnI.len hown
    have hqk : q ≤ k := by
      rw [← hql]
      refine Nat.le_trans (List.length_filter_le _ _) ?_
      simp; omega
    clear hql
    by_cases hlt : k < n
    · obtain ⟨b, off, z, rfl, hblt, hz, hcz⟩ := (h.keep hB).at_ hlt
      obtain ⟨z0, z1⟩ := risesB_in hr hz
      have hgk := g.keep hB
      have hbs := hB.size
      have Hf := Lib.hid (filter_take_succ (uncB s gs) hz)
      clear hz
      cases h1 : hasI gs z
      case true =>
        have hu : uncB s gs z = false := by simp [uncB, h1]
        have Hu := Lib.hid hu
        clear hu
        go_wp2_with (go_at_call 47; refine (contains_eq _ _ _ _ _ _ _ hgk hm (by assumption)).mono ?_; rintro e w' ⟨rfl, rfl⟩)
        go_roundw
        case rel => exact ⟨k + 1, by omega, by go_num, ⟨_, _, _, rfl, by rw [Hf.out, Hu.out]; simpa using hown⟩, hB⟩
        case measure => simp [intOf]; omega
      cases h2 : hasI gs ((z + s - 1) % s)
      case true =>
        have hu : uncB s gs z = false := by simp [uncB, h2]
        have Hu := Lib.hid hu
        clear hu
        go_wp2_with (go_at_call 47; refine (contains_eq _ _ _ _ _ _ _ hgk hm (by assumption)).mono ?_; rintro e w' ⟨rfl, rfl⟩)
        go_roundw
        case rel => exact ⟨k + 1, by omega, by go_num, ⟨_, _, _, rfl, by rw [Hf.out, Hu.out]; simpa using hown⟩, hB⟩
        case measure => simp [intOf]; omega
      have hu : uncB s gs z = true := by simp [uncB, h1, h2]
      have Hu := Lib.hid hu
      clear hu
      go_wp2_with (first | (go_at_call 47; refine (contains_eq _ _ _ _ _ _ _ hgk hm (by assumption)).mono ?_; rintro e w' ⟨rfl, rfl⟩) | (at_builtin; refine wpList_append_own _ rfl _ _ 22 rfl w.heap.size 2 i0 (.int .i64 0) 1 8 Try.underlying22 hi0 hz0 hz1 hz2 rfl (by decide) _ _ _ rfl (hown.alloc _) ⟨_, 0, none⟩ 1 1 [.int .i64 z] rfl rfl (cell_one_new _ _ _) (ints_oneCell .i64 [z]) (by unfold maxLen; omega) (by omega) (by simp; omega) ?_; intro v1 w1 hown1 hgrow1 _))
      go_roundw
      case rel =>
        have e1 : (zs.take (k + 1)).filter (uncB s gs) = (zs.take k).filter (uncB s gs) ++ [z] := by rw [Hf.out, Hu.out]; rfl
        obtain ⟨C', p', rfl, hown'⟩ := own_app hown1
        rw [← e1] at hown'
        exact ⟨k + 1, by omega, by go_num, ⟨_, _, _, rfl, hown'⟩, below_app hB hown hgrow1⟩
      case measure => simp [intOf]; omega
    · obtain rfl : k = n := by omega
      go_wp2
      go_ret2
      refine ⟨_, _, _, rfl, ?_, hB⟩
      rw [take_all HL.out] at hown
      exact hown
theorem specUncoveredBy_any (s : Int) (A B : Option Addr) (n c m d : Nat) (zs gs : List Int) (w : World) (h : Ints w A n zs) (g : Ints w B m gs) (hn : n ≤ 1048576) (hm : m ≤ 1048576) : Calls Try.prog 30 #[.int .i64 s, .slice A n c, .slice B m d] w fun e w' =>
    ∃ C q p, e = .returned (.tuple #[.slice C q p, .int .i64 (uncV s zs gs).2]) ∧ OwnI w' w.heap.size (.slice C q p) q (uncV s zs gs).1 ∧ Below w.heap.size w w' := by
  obtain ⟨i0, hi0, hz0, hz1, hz2⟩ := info_parts info_i64
  cases ho : okBrok s zs
  · have hv : uncV s zs gs = ([], 1) := by simp [uncV, ho]
    rw [hv]
    clear hv
    go_enter Try.func30, Try.ntmps30
    go_wp2_with (go_at_call 41; refine (l16Ok_eq _ _ _ _ _ _ _ h hn ho).mono ?_; rintro e w' ⟨rfl, q1, rfl⟩)
    go_ret2
    exact ⟨none, 0, 0, rfl, World.ownsRow_nil _ _ _ _, by (repeat' (first | (with_reducible exact Below.refl _ _) | (with_reducible assumption) | (with_reducible refine Below.drew ?_) | (with_reducible refine below_drewN ?_ _) | (with_reducible refine Below.setCell ?_ ?_ _) | (with_reducible refine Below.alloc ?_ ?_ _) | go_size))⟩
  obtain ⟨hs, hr⟩ := okBrok_iff.1 ho
  cases hg : risesB gs 0 (s - 1)
  · have hv : uncV s zs gs = ([], 2) := by simp [uncV, ho, hg]
    rw [hv]
    clear hv
    go_enter Try.func30, Try.ntmps30
    go_wp2_with (first | (go_at_call 41; refine (l16Ok_eq _ _ _ _ _ _ _ h hn ho).mono ?_; rintro e w' ⟨rfl, q1, rfl⟩) | (go_at_call 54; refine (l00Rises_eq _ _ _ _ _ _ _ _ (g.drewN _) hm hg).mono ?_; rintro e w' ⟨rfl, q2, rfl⟩))
    go_ret2
    exact ⟨none, 0, 0, rfl, World.ownsRow_nil _ _ _ _, by (repeat' (first | (with_reducible exact Below.refl _ _) | (with_reducible assumption) | (with_reducible refine Below.drew ?_) | (with_reducible refine below_drewN ?_ _) | (with_reducible refine Below.setCell ?_ ?_ _) | (with_reducible refine Below.alloc ?_ ?_ _) | go_size))⟩
  have hv : uncV s zs gs = (zs.filter (uncB s gs), 0) := by simp [uncV, ho, hg]
  rw [hv]
  clear hv
  have HL := Lib.hid h.1
  go_enter Try.func30, Try.ntmps30
  go_wp2_with (first | (go_at_call 41; refine (l16Ok_eq _ _ _ _ _ _ _ h hn ho).mono ?_; rintro e w' ⟨rfl, q1, rfl⟩) | (go_at_call 54; refine (l00Rises_eq _ _ _ _ _ _ _ _ (g.drewN _) hm hg).mono ?_; rintro e w' ⟨rfl, q2, rfl⟩))
  go_loopw [8, 9] (fun v i wr => ∃ k : Nat, k ≤ n ∧ i = .int .i64 k ∧ (∃ C q p, v = .slice C q p ∧ OwnI wr w.heap.size (.slice C q p) q ((zs.take k).filter (uncB s gs))) ∧ Below w.heap.size w wr) (fun _ i _ => n - (intOf i).toNat)
  case atStart =>
    refine ⟨0, Nat.zero_le _, rfl, ⟨_, _, _, rfl, ?_⟩, ?_⟩
    · exact World.ownsRow_made _ _ _ (by simp) (by unfold maxLen; omega) (by simp)
    · (repeat' (first | (with_reducible exact Below.refl _ _) | (with_reducible assumption) | (with_reducible refine Below.drew ?_) | (with_reducible refine below_drewN ?_ _) | (with_reducible refine Below.setCell ?_ ?_ _) | (with_reducible refine Below.alloc ?_ ?_ _) | go_size))
  case round =>
    obtain ⟨k, hk, rfl, ⟨C, q, p, rfl, hown⟩, hB⟩ := hrel
    have hql := OwnI.len hown
    have hqk : q ≤ k := by
      rw [← hql]
      refine Nat.le_trans (List.length_filter_le _ _) ?_
      simp; omega
    clear hql
    by_cases hlt : k < n
    · obtain ⟨b, off, z, rfl, hblt, hz, hcz⟩ := (h.keep hB).at_ hlt
      obtain ⟨z0, z1⟩ := risesB_in hr hz
      have hgk := g.keep hB
      have hbs := hB.size
      have Hf := Lib.hid (filter_take_succ (uncB s gs) hz)
      clear hz
      cases h1 : hasI gs z
      case true =>
        have hu : uncB s gs z = false := by simp [uncB, h1]
        have Hu := Lib.hid hu
        clear hu
        go_wp2_with (go_at_call 55; refine (l00Has_eq _ _ _ _ _ _ _ hgk hm (by assumption)).mono ?_; rintro e w' ⟨rfl, rfl⟩)
        go_roundw
        case rel => exact ⟨k + 1, by omega, by go_num, ⟨_, _, _, rfl, by rw [Hf.out, Hu.out]; simpa using hown⟩, hB⟩
        case measure => simp [intOf]; omega
      cases h2 : hasI gs ((z + s - 1) % s)
      case true =>
        have hu : uncB s gs z = false := by simp [uncB, h2]
        have Hu := Lib.hid hu
        clear hu
        go_wp2_with (go_at_call 55; refine (l00Has_eq _ _ _ _ _ _ _ hgk hm (by assumption)).mono ?_; rintro e w' ⟨rfl, rfl⟩)
        go_roundw
        case rel => exact ⟨k + 1, by omega, by go_num, ⟨_, _, _, rfl, by rw [Hf.out, Hu.out]; simpa using hown⟩, hB⟩
        case measure => simp [intOf]; omega
      have hu : uncB s gs z = true := by simp [uncB, h1, h2]
      have Hu := Lib.hid hu
      clear hu
      go_wp2_with (first | (go_at_call 55; refine (l00Has_eq _ _ _ _ _ _ _ hgk hm (by assumption)).mono ?_; rintro e w' ⟨rfl, rfl⟩) | (at_builtin; refine wpList_append_own _ rfl _ _ 22 rfl w.heap.size 2 i0 (.int .i64 0) 1 8 Try.underlying22 hi0 hz0 hz1 hz2 rfl (by decide) _ _ _ rfl (hown.alloc _) ⟨_, 0, none⟩ 1 1 [.int .i64 z] rfl rfl (cell_one_new _ _ _) (ints_oneCell .i64 [z]) (by unfold maxLen; omega) (by omega) (by simp; omega) ?_; intro v1 w1 hown1 hgrow1 _))
      go_roundw
      case rel =>
        have e1 : (zs.take (k + 1)).filter (uncB s gs) = (zs.take k).filter (uncB s gs) ++ [z] := by rw [Hf.out, Hu.out]; rfl
        obtain ⟨C', p', rfl, hown'⟩ := own_app hown1
        rw [← e1] at hown'
        exact ⟨k + 1, by omega, by go_num, ⟨_, _, _, rfl, hown'⟩, below_app hB hown hgrow1⟩
      case measure => simp [intOf]; omega
    · obtain rfl : k = n := by omega
      go_wp2
      go_ret2
      refine ⟨_, _, _, rfl, ?_, hB⟩
      rw [take_all HL.out] at hown
      exact hown
theorem uncV_len (s : Int) (zs gs : List Int) : (uncV s zs gs).1.length ≤ zs.length := by
  unfold uncV
  split
  · split
    · exact List.length_filter_le _ _
    · simp
  · simp
theorem law_FnExactUncoveredBy (w : World) (s : Int) (_ : (Lit.int .i64 s).wf = true) (A : Option Addr) (n c : Nat) (zs : List Int) (h0 : IsInts .i64 w A n zs) (B : Option Addr) (m d : Nat) (gs : List Int) (g0 : IsInts .i64 w B m gs) : Calls Try.prog 6 #[.int .i64 s, .slice A n c, .slice B m d] w fun e w' => e = .returned (.bool true) ∧ Below w.heap.size w w' := by
  have hm1 := h0.1
  have hm2 := g0.1
  unfold maxLen at hm1 hm2
  by_cases hbig : 1048576 < n
  · have h' : (1048576 : Int) < (n : Int) := by omega
    go_enter Try.func6, Try.ntmps6
    go_wp2
    go_ret
    exact ⟨rfl, Below.refl _ _⟩
  have hn : n ≤ 1048576 := by omega
  have h' : ¬ (1048576 : Int) < (n : Int) := by omega
  by_cases hbig2 : 1048576 < m
  · have h2' : (1048576 : Int) < (m : Int) := by omega
    go_enter Try.func6, Try.ntmps6
    go_wp2
    go_ret
    exact ⟨rfl, Below.refl _ _⟩
  have hm : m ≤ 1048576 := by omega
  have h2' : ¬ (1048576 : Int) < (m : Int) := by omega
  clear hbig hbig2
  have h := h0.ints
  have g := g0.ints
  have hL := uncV_len s zs gs
  rw [h.1] at hL
  have HL := Lib.hid hL
  clear hL
  have hB := Below.refl w.heap.size w
  go_enter Try.func6, Try.ntmps6
  (go_wp2_with fail; refine (toInt64S_any _ _ _ _ _ (Ints.keep h hB) hn).mono ?_; rintro e w' ⟨rfl, ha, hb⟩; have hl := OwnI.lt ha _ rfl; (have hz := hb.size; (try replace ha := OwnI.keep ha hb); (try replace hc := OwnI.keep hc hb); (try replace hx := OwnI.keep hx hb); (try replace hy := OwnI.keep hy hb); (try replace hs := OwnI.keep hs hb); (try replace hg := OwnI.keep hg hb); (try replace hd := OwnI.keep hd hb); replace hB := belowT hb hB; clear hb))
  (go_wp2_with fail; refine (toInt64S_any _ _ _ _ _ (Ints.keep g hB) hm).mono ?_; rintro e w' ⟨rfl, hc, hb⟩; have hl := OwnI.lt hc _ rfl; (have hz := hb.size; (try replace ha := OwnI.keep ha hb); (try replace hc := OwnI.keep hc hb); (try replace hx := OwnI.keep hx hb); (try replace hy := OwnI.keep hy hb); (try replace hs := OwnI.keep hs hb); (try replace hg := OwnI.keep hg hb); (try replace hd := OwnI.keep hd hb); replace hB := belowT hb hB; clear hb))
  go_wp2_with fail
  refine (specUncoveredBy_any _ _ _ _ _ _ _ _ _ _ (OwnI.ints ha) (OwnI.ints hc) hn hm).mono ?_
  rintro e w' ⟨C, q, p, rfl, hs, hb⟩
  have hq : q ≤ 1048576 := by rw [← OwnI.len hs]; exact Nat.le_trans HL.out hn
  have s1 := fun g hg => (OwnI.lt hs g hg).2
  (have hz := hb.size; (try replace ha := OwnI.keep ha hb); (try replace hc := OwnI.keep hc hb); (try replace hx := OwnI.keep hx hb); (try replace hy := OwnI.keep hy hb); (try replace hs := OwnI.keep hs hb); (try replace hg := OwnI.keep hg hb); (try replace hd := OwnI.keep hd hb); replace hB := belowT hb hB; clear hb)
  clear ha hc
  (go_wp2_with fail; refine (toInt64S_any _ _ _ _ _ (Ints.keep h hB) hn).mono ?_; rintro e w' ⟨rfl, hx, hb⟩; have hl := OwnI.lt hx _ rfl; (have hz := hb.size; (try replace ha := OwnI.keep ha hb); (try replace hc := OwnI.keep hc hb); (try replace hx := OwnI.keep hx hb); (try replace hy := OwnI.keep hy hb); (try replace hs := OwnI.keep hs hb); (try replace hg := OwnI.keep hg hb); (try replace hd := OwnI.keep hd hb); replace hB := belowT hb hB; clear hb))
  (go_wp2_with fail; refine (toInt64S_any _ _ _ _ _ (Ints.keep g hB) hm).mono ?_; rintro e w' ⟨rfl, hy, hb⟩; have hl := OwnI.lt hy _ rfl; (have hz := hb.size; (try replace ha := OwnI.keep ha hb); (try replace hc := OwnI.keep hc hb); (try replace hx := OwnI.keep hx hb); (try replace hy := OwnI.keep hy hb); (try replace hs := OwnI.keep hs hb); (try replace hg := OwnI.keep hg hb); (try replace hd := OwnI.keep hd hb); replace hB := belowT hb hB; clear hb))
  go_wp2_with fail
  refine (implUncoveredBy_any _ _ _ _ _ _ _ _ _ _ (OwnI.ints hx) (OwnI.ints hy) hn hm).mono ?_
  rintro e w' ⟨D, r, t, rfl, hg, hb⟩
  obtain rfl : r = q := (OwnI.len hg).symm.trans (OwnI.len hs)
  have g1 := fun g h => (OwnI.lt hg g h).1
  (have hz := hb.size; (try replace ha := OwnI.keep ha hb); (try replace hc := OwnI.keep hc hb); (try replace hx := OwnI.keep hx hb); (try replace hy := OwnI.keep hy hb); (try replace hs := OwnI.keep hs hb); (try replace hg := OwnI.keep hg hb); (try replace hd := OwnI.keep hd hb); replace hB := belowT hb hB; clear hb)
  (go_wp2_with fail; refine (eqI_same _ _ _ _ _ _ _ (OwnI.ints hg) (OwnI.ints hs) hq).mono ?_; rintro e w' ⟨rfl, hb⟩; (have hz := hb.size; (try replace ha := OwnI.keep ha hb); (try replace hc := OwnI.keep hc hb); (try replace hx := OwnI.keep hx hb); (try replace hy := OwnI.keep hy hb); (try replace hs := OwnI.keep hs hb); (try replace hg := OwnI.keep hg hb); (try replace hd := OwnI.keep hd hb); replace hB := belowT hb hB; clear hb))
  (go_wp2_with fail; refine (toInt64S_any _ _ _ _ _ (Ints.keep h hB) hn).mono ?_; rintro e w' ⟨rfl, hd, hb⟩; have hl := OwnI.lt hd _ rfl; (have hz := hb.size; (try replace ha := OwnI.keep ha hb); (try replace hc := OwnI.keep hc hb); (try replace hx := OwnI.keep hx hb); (try replace hy := OwnI.keep hy hb); (try replace hs := OwnI.keep hs hb); (try replace hg := OwnI.keep hg hb); (try replace hd := OwnI.keep hd hb); replace hB := belowT hb hB; clear hb))
  (go_wp2_with fail; refine (eqI_same _ _ _ _ _ _ _ (OwnI.ints hx) (OwnI.ints hd) hn).mono ?_; rintro e w' ⟨rfl, hb⟩; (have hz := hb.size; (try replace ha := OwnI.keep ha hb); (try replace hc := OwnI.keep hc hb); (try replace hx := OwnI.keep hx hb); (try replace hy := OwnI.keep hy hb); (try replace hs := OwnI.keep hs hb); (try replace hg := OwnI.keep hg hb); (try replace hd := OwnI.keep hd hb); replace hB := belowT hb hB; clear hb))
  clear hd
  (go_wp2_with fail; refine (toInt64S_any _ _ _ _ _ (Ints.keep g hB) hm).mono ?_; rintro e w' ⟨rfl, hd, hb⟩; have hl := OwnI.lt hd _ rfl; (have hz := hb.size; (try replace ha := OwnI.keep ha hb); (try replace hc := OwnI.keep hc hb); (try replace hx := OwnI.keep hx hb); (try replace hy := OwnI.keep hy hb); (try replace hs := OwnI.keep hs hb); (try replace hg := OwnI.keep hg hb); (try replace hd := OwnI.keep hd hb); replace hB := belowT hb hB; clear hb))
  (go_wp2_with fail; refine (eqI_same _ _ _ _ _ _ _ (OwnI.ints hy) (OwnI.ints hd) hm).mono ?_; rintro e w' ⟨rfl, hb⟩; (have hz := hb.size; (try replace ha := OwnI.keep ha hb); (try replace hc := OwnI.keep hc hb); (try replace hx := OwnI.keep hx hb); (try replace hy := OwnI.keep hy hb); (try replace hs := OwnI.keep hs hb); (try replace hg := OwnI.keep hg hb); (try replace hd := OwnI.keep hd hb); replace hB := belowT hb hB; clear hb))
  clear hd
  (go_wp2_with fail; refine (markInt64S_any _ _ _ _ _ _ _ hx hn (by omega) (by omega)).mono ?_; rintro e w' ⟨rfl, hx, hgw⟩; (have hz := hgw.size; (try replace hs := OwnI.grown hs hgw (by (intro b e1 e2; rw [blk_own] at e1; (try (have := s1 b e2)); (try (have := s1 b e1)); (try (have := g1 b e1)); (try (have := g1 b e2)); (try simp only [blk, Option.map_some, Option.some.injEq] at e1); (try simp only [blk, Option.map_some, Option.some.injEq] at e2); omega))); (try replace hg := OwnI.grown hg hgw (by (intro b e1 e2; rw [blk_own] at e1; (try (have := s1 b e2)); (try (have := s1 b e1)); (try (have := g1 b e1)); (try (have := g1 b e2)); (try simp only [blk, Option.map_some, Option.some.injEq] at e1); (try simp only [blk, Option.map_some, Option.some.injEq] at e2); omega))); (try replace hx := OwnI.grown hx hgw (by (intro b e1 e2; rw [blk_own] at e1; (try (have := s1 b e2)); (try (have := s1 b e1)); (try (have := g1 b e1)); (try (have := g1 b e2)); (try simp only [blk, Option.map_some, Option.some.injEq] at e1); (try simp only [blk, Option.map_some, Option.some.injEq] at e2); omega))); (try replace hy := OwnI.grown hy hgw (by (intro b e1 e2; rw [blk_own] at e1; (try (have := s1 b e2)); (try (have := s1 b e1)); (try (have := g1 b e1)); (try (have := g1 b e2)); (try simp only [blk, Option.map_some, Option.some.injEq] at e1); (try simp only [blk, Option.map_some, Option.some.injEq] at e2); omega))); replace hB := Below.grown hB hgw hB.size (by (intro b e1; rw [blk_own] at e1; (try (have := g1 b e1)); (try simp only [blk, Option.map_some, Option.some.injEq] at e1); omega)); clear hgw))
  (go_wp2_with fail; refine (markInt64S_any _ _ _ _ _ _ _ hy hm (by omega) (by omega)).mono ?_; rintro e w' ⟨rfl, hy, hgw⟩; (have hz := hgw.size; (try replace hs := OwnI.grown hs hgw (by (intro b e1 e2; rw [blk_own] at e1; (try (have := s1 b e2)); (try (have := s1 b e1)); (try (have := g1 b e1)); (try (have := g1 b e2)); (try simp only [blk, Option.map_some, Option.some.injEq] at e1); (try simp only [blk, Option.map_some, Option.some.injEq] at e2); omega))); (try replace hg := OwnI.grown hg hgw (by (intro b e1 e2; rw [blk_own] at e1; (try (have := s1 b e2)); (try (have := s1 b e1)); (try (have := g1 b e1)); (try (have := g1 b e2)); (try simp only [blk, Option.map_some, Option.some.injEq] at e1); (try simp only [blk, Option.map_some, Option.some.injEq] at e2); omega))); (try replace hx := OwnI.grown hx hgw (by (intro b e1 e2; rw [blk_own] at e1; (try (have := s1 b e2)); (try (have := s1 b e1)); (try (have := g1 b e1)); (try (have := g1 b e2)); (try simp only [blk, Option.map_some, Option.some.injEq] at e1); (try simp only [blk, Option.map_some, Option.some.injEq] at e2); omega))); (try replace hy := OwnI.grown hy hgw (by (intro b e1 e2; rw [blk_own] at e1; (try (have := s1 b e2)); (try (have := s1 b e1)); (try (have := g1 b e1)); (try (have := g1 b e2)); (try simp only [blk, Option.map_some, Option.some.injEq] at e1); (try simp only [blk, Option.map_some, Option.some.injEq] at e2); omega))); replace hB := Below.grown hB hgw hB.size (by (intro b e1; rw [blk_own] at e1; (try (have := g1 b e1)); (try simp only [blk, Option.map_some, Option.some.injEq] at e1); omega)); clear hgw))
  (go_wp2_with fail; refine (eqI_same _ _ _ _ _ _ _ (OwnI.ints hg) (OwnI.ints hs) hq).mono ?_; rintro e w' ⟨rfl, hb⟩; (have hz := hb.size; (try replace ha := OwnI.keep ha hb); (try replace hc := OwnI.keep hc hb); (try replace hx := OwnI.keep hx hb); (try replace hy := OwnI.keep hy hb); (try replace hs := OwnI.keep hs hb); (try replace hg := OwnI.keep hg hb); (try replace hd := OwnI.keep hd hb); replace hB := belowT hb hB; clear hb))
  clear hx hy
  (go_wp2_with fail; refine (markInt64S_any _ _ _ _ _ _ _ hg hq (by omega) (by omega)).mono ?_; rintro e w' ⟨rfl, hg, hgw⟩; (have hz := hgw.size; (try replace hs := OwnI.grown hs hgw (by (intro b e1 e2; rw [blk_own] at e1; (try (have := s1 b e2)); (try (have := s1 b e1)); (try (have := g1 b e1)); (try (have := g1 b e2)); (try simp only [blk, Option.map_some, Option.some.injEq] at e1); (try simp only [blk, Option.map_some, Option.some.injEq] at e2); omega))); (try replace hg := OwnI.grown hg hgw (by (intro b e1 e2; rw [blk_own] at e1; (try (have := s1 b e2)); (try (have := s1 b e1)); (try (have := g1 b e1)); (try (have := g1 b e2)); (try simp only [blk, Option.map_some, Option.some.injEq] at e1); (try simp only [blk, Option.map_some, Option.some.injEq] at e2); omega))); (try replace hx := OwnI.grown hx hgw (by (intro b e1 e2; rw [blk_own] at e1; (try (have := s1 b e2)); (try (have := s1 b e1)); (try (have := g1 b e1)); (try (have := g1 b e2)); (try simp only [blk, Option.map_some, Option.some.injEq] at e1); (try simp only [blk, Option.map_some, Option.some.injEq] at e2); omega))); (try replace hy := OwnI.grown hy hgw (by (intro b e1 e2; rw [blk_own] at e1; (try (have := s1 b e2)); (try (have := s1 b e1)); (try (have := g1 b e1)); (try (have := g1 b e2)); (try simp only [blk, Option.map_some, Option.some.injEq] at e1); (try simp only [blk, Option.map_some, Option.some.injEq] at e2); omega))); replace hB := Below.grown hB hgw hB.size (by (intro b e1; rw [blk_own] at e1; (try (have := g1 b e1)); (try simp only [blk, Option.map_some, Option.some.injEq] at e1); omega)); clear hgw))
  (go_wp2_with fail; refine (heldInt64S_ramp _ _ _ _ _ (OwnI.ints hg) hq (by omega) (by omega)).mono ?_; rintro e w' ⟨rfl, rfl⟩)
  (go_wp2_with fail; refine (toInt64S_any _ _ _ _ _ (Ints.keep h hB) hn).mono ?_; rintro e w' ⟨rfl, hx, hb⟩; have hl := OwnI.lt hx _ rfl; (have hz := hb.size; (try replace ha := OwnI.keep ha hb); (try replace hc := OwnI.keep hc hb); (try replace hx := OwnI.keep hx hb); (try replace hy := OwnI.keep hy hb); (try replace hs := OwnI.keep hs hb); (try replace hg := OwnI.keep hg hb); (try replace hd := OwnI.keep hd hb); replace hB := belowT hb hB; clear hb))
  (go_wp2_with fail; refine (toInt64S_any _ _ _ _ _ (Ints.keep g hB) hm).mono ?_; rintro e w' ⟨rfl, hy, hb⟩; have hl := OwnI.lt hy _ rfl; (have hz := hb.size; (try replace ha := OwnI.keep ha hb); (try replace hc := OwnI.keep hc hb); (try replace hx := OwnI.keep hx hb); (try replace hy := OwnI.keep hy hb); (try replace hs := OwnI.keep hs hb); (try replace hg := OwnI.keep hg hb); (try replace hd := OwnI.keep hd hb); replace hB := belowT hb hB; clear hb))
  go_wp2_with fail
  refine (implUncoveredBy_any _ _ _ _ _ _ _ _ _ _ (OwnI.ints hx) (OwnI.ints hy) hn hm).mono ?_
  rintro e w' ⟨D2, r2, t2, rfl, hd, hb⟩
  obtain rfl : r2 = r := (OwnI.len hd).symm.trans (OwnI.len hs)
  (have hz := hb.size; (try replace ha := OwnI.keep ha hb); (try replace hc := OwnI.keep hc hb); (try replace hx := OwnI.keep hx hb); (try replace hy := OwnI.keep hy hb); (try replace hs := OwnI.keep hs hb); (try replace hg := OwnI.keep hg hb); (try replace hd := OwnI.keep hd hb); replace hB := belowT hb hB; clear hb)
  (go_wp2_with fail; refine (eqI_same _ _ _ _ _ _ _ (OwnI.ints hd) (OwnI.ints hs) hq).mono ?_; rintro e w' ⟨rfl, hb⟩; (have hz := hb.size; (try replace ha := OwnI.keep ha hb); (try replace hc := OwnI.keep hc hb); (try replace hx := OwnI.keep hx hb); (try replace hy := OwnI.keep hy hb); (try replace hs := OwnI.keep hs hb); (try replace hg := OwnI.keep hg hb); (try replace hd := OwnI.keep hd hb); replace hB := belowT hb hB; clear hb))
  (go_wp2_with fail; refine (heldInt64S_ramp _ _ _ _ _ (OwnI.ints hg) hq (by omega) (by omega)).mono ?_; rintro e w' ⟨rfl, rfl⟩)
  go_wp2
  go_ret
  exact ⟨rfl, hB⟩
end Go.Proofs.Ytniifpfhfpcmcaa
