/- Contracts: l15Pairs. -/
import Derived.Test.YtgjjmgneekjapaaDoorPairs
namespace Go.Proofs.YtgjjmgneekjapaaDoor
open Go.RowKit
set_option linter.unusedVariables false
set_option linter.unusedSimpArgs false

theorem grown_drew {w w1 : World} {r : Option Nat} (h : w.drew.grownBy w1 r) : w.grownBy w1 r := ⟨h.os, h.tape, h.output, h.size, h.block⟩
theorem grown_drewN {w w1 : World} {n : Nat} {r : Option Nat} (h : (w.drewN n).grownBy w1 r) : w.grownBy w1 r := ⟨h.os, h.tape, h.output, h.size, h.block⟩
theorem l00Min_eq (a b v : Int) (w : World) (h : min a b = v) : Calls Tryd.prog 42 #[.int .i64 a, .int .i64 b] w fun e w' => e = .returned (.int .i64 v) ∧ w' = w := by
  by_cases hab : a < b
  · obtain rfl : a = v := by omega
    go_enter Tryd.func42, Tryd.ntmps42
    go_wp2
    go_ret
    exact ⟨rfl, rfl⟩
  · obtain rfl : b = v := by omega
    go_enter Tryd.func42, Tryd.ntmps42
    go_wp2
    go_ret
    exact ⟨rfl, rfl⟩
theorem l00Max_eq (a b v : Int) (w : World) (h : max a b = v) : Calls Tryd.prog 41 #[.int .i64 a, .int .i64 b] w fun e w' => e = .returned (.int .i64 v) ∧ w' = w := by
  by_cases hab : b < a
  · obtain rfl : a = v := by omega
    go_enter Tryd.func41, Tryd.ntmps41
    go_wp2
    go_ret
    exact ⟨rfl, rfl⟩
  · obtain rfl : b = v := by omega
    go_enter Tryd.func41, Tryd.ntmps41
    go_wp2
    go_ret
    exact ⟨rfl, rfl⟩
theorem grown_undrawn {w w1 : World} {n : Nat} {o o2 : Obj} {r : Option Nat} (h : (((w.drewN n).alloc o).alloc o2).grownBy w1 r) : ((w.alloc o).alloc o2).grownBy w1 r := ⟨h.os, h.tape, h.output, h.size, h.block⟩
set_option maxHeartbeats 4000000 in
theorem l15Pairs_any (f b s p : Nat) (st : Int) (w : World) (hc0 : w.cell? ⟨p, 0, none⟩ = some (.int .i64 f)) (hc1 : w.cell? ⟨p, 1, none⟩ = some (.int .i64 b)) (hc2 : w.cell? ⟨p, 2, none⟩ = some (.int .i64 s)) (ho : okSeat f b s = true) (h1 : 1 ≤ st) (h6 : st ≤ 6) : Calls Tryd.prog 34 #[.pointer (some ⟨p, 0, none⟩), .int .i64 st] w fun e w' =>
    ∃ A n c, e = .returned (.slice A n c) ∧ OwnP w' w.heap.size (.slice A n c) n (pairsL f b s st) ∧ Below w.heap.size w w' := by
  obtain ⟨⟨f0, f1⟩, ⟨b0, b1⟩, ⟨s0, s1⟩, hmod⟩ := (okSeat_iff _ _ _).1 ho
  obtain ⟨i0, hi0, hz0, hz1, hz2⟩ := info_parts info_ss
  have hcases : st = 1 ∨ st = 2 ∨ st = 3 ∨ st = 4 ∨ (st = 5 ∧ f ≤ s) ∨ (st = 5 ∧ s < f) ∨ (st = 6 ∧ f ≤ s) ∨ (st = 6 ∧ s < f) := by omega
  obtain ⟨h, hhd⟩ : ∃ h : Nat, f - b = 2 * h := ⟨(f - b) / 2, by omega⟩
  have hh : ((f : Int) - b) / 2 = (h : Int) := by omega
  have hp := World.block_lt_of_cell? _ _ hc0
  clear ho hmod h1 h6
  rcases hcases with rfl | rfl | rfl | rfl | ⟨rfl, hfs⟩ | ⟨rfl, hsf⟩ | ⟨rfl, hfs⟩ | ⟨rfl, hsf⟩
  · have hv : pairsL f b s 1 = (List.range f).map (stepP f b 1) := by simp [pairsL, stepN]
    rw [hv]
    clear hv
    go_enter Tryd.func34, Tryd.ntmps34
    go_wp2_with fail
    go_quiet (fail)
    rw [hh]
    go_wp2_with fail
    go_loopw [5, 7] (fun v i wr => ∃ k : Nat, k ≤ f ∧ i = .int .i64 k ∧ OwnP wr w.heap.size v k ((List.range k).map (stepP f b 1)) ∧ Below w.heap.size w wr) (fun _ i _ => f - (intOf i).toNat)
    case atStart =>
      refine ⟨0, Nat.zero_le _, rfl, OwnP.start _ _ (Nat.le_refl _), ?_⟩
      (repeat' (first | (with_reducible exact Below.refl _ _) | (with_reducible assumption) | (with_reducible refine Below.drew ?_) | (with_reducible refine below_drewN ?_ _) | (with_reducible refine Below.setCell ?_ ?_ _) | (with_reducible refine Below.alloc ?_ ?_ _) | go_size))
    case round =>
      obtain ⟨k, hk, rfl, hP, hB⟩ := hrel
      have hd0 : wr.cell? ⟨p, 0, none⟩ = some (.int .i64 f) := keepc hB hc0
      have hd1 : wr.cell? ⟨p, 1, none⟩ = some (.int .i64 b) := keepc hB hc1
      have hd2 : wr.cell? ⟨p, 2, none⟩ = some (.int .i64 s) := keepc hB hc2
      have hbs := hB.size
      by_cases hlt : k < f
      · obtain ⟨hl, gs, g1, g2, g3, g4⟩ := hP
        have e1 : max (0 : Int) ((k : Int) - h) = max 0 ((k : Int) - h) := rfl
        generalize hmx : max (0 : Int) ((k : Int) - h) = mx at e1
        clear e1
        have e2 : min ((b : Int) - 1) mx = min ((b : Int) - 1) mx := rfl
        generalize hmn : min ((b : Int) - 1) mx = mn at e2
        clear e2
        have y1 : IntKind.i64.wrap ((k : Int) - h) = k - h := IntWalk.i64_in _ (by omega)
        have y2 : IntKind.i64.wrap ((b : Int) - 1) = b - 1 := IntWalk.i64_in _ (by omega)
        go_wp2_with fail
        go_region_held3 (fun w' => w'.cell? ⟨p, 1, none⟩ = some (.int .i64 b)) (first | go_keep | (rw [hgrow1.cell_far _ (by simp; omega) (by intro e; exact absurd (World.ownsRow.lt g2 _ e.symm).1 (Nat.not_le.2 hp))]; go_keep)) (first | (first | (go_at_call 42; refine (l00Min_eq _ _ _ _ (by assumption)).mono ?_; rintro e w' ⟨rfl, rfl⟩) | (go_at_call 41; refine (l00Max_eq _ _ _ _ (by assumption)).mono ?_; rintro e w' ⟨rfl, rfl⟩)) | (refine step_append_lies _ (by rfl) _ _ 32 (by rfl) (w.heap.size) 37 i0 (.slice none 0 0) 1 24 Tryd.underlying32 hi0 hz0 hz1 hz2 rfl (by decide) _ _ _ (by rfl) (by exact World.ownsRow.alloc (World.ownsRow.alloc g2 _) _) ⟨wr.heap.size + 1, 0, none⟩ 1 1 [.slice (some ⟨wr.heap.size, 0, none⟩) 2 2] (by rfl) (by rfl) (cell_one_new2 _ _ _ _ (by simp)) (by simp [Value.oneCell']) (by decide) (by unfold maxLen; omega) (by omega) (by simp; omega) (wr.heap.size + 1 + 1) (by simp) ?_; intro gn cap w1 hown1 hgrow1 hat1 hlt1))
        go_wp2
        go_roundw
        case rel =>
          have h5 := OwnP.app (p := (_, _)) hbs hl g1 g2 g3 g4 hown1 (grown_drew hgrow1) hat1
          exact ⟨k + 1, by omega, by go_num, OwnP.next h5 (by (rw [stepP_mid (by omega)]; unfold midI; rw [hh, hmx, hmn])), below_app3 hB hbs g2 (grown_drew hgrow1)⟩
        case measure => simp [intOf]; omega
      · obtain rfl : k = f := by omega
        obtain ⟨A, c, rfl⟩ := OwnP.form hP
        go_wp2
        skip
        go_ret
        exact ⟨_, _, _, rfl, hP, by first | exact hB | exact below_drewN hB _⟩
  · have hv : pairsL f b s 2 = (List.range s).map (stepP f b 2) := by simp [pairsL, stepN]
    rw [hv]
    clear hv
    go_enter Tryd.func34, Tryd.ntmps34
    go_wp2_with fail
    go_quiet (fail)
    rw [hh]
    go_wp2_with fail
    go_loopw [5, 8] (fun v i wr => ∃ k : Nat, k ≤ s ∧ i = .int .i64 k ∧ OwnP wr w.heap.size v k ((List.range k).map (stepP f b 2)) ∧ Below w.heap.size w wr) (fun _ i _ => s - (intOf i).toNat)
    case atStart =>
      refine ⟨0, Nat.zero_le _, rfl, OwnP.start _ _ (Nat.le_refl _), ?_⟩
      (repeat' (first | (with_reducible exact Below.refl _ _) | (with_reducible assumption) | (with_reducible refine Below.drew ?_) | (with_reducible refine below_drewN ?_ _) | (with_reducible refine Below.setCell ?_ ?_ _) | (with_reducible refine Below.alloc ?_ ?_ _) | go_size))
    case round =>
      obtain ⟨k, hk, rfl, hP, hB⟩ := hrel
      have hd0 : wr.cell? ⟨p, 0, none⟩ = some (.int .i64 f) := keepc hB hc0
      have hd1 : wr.cell? ⟨p, 1, none⟩ = some (.int .i64 b) := keepc hB hc1
      have hd2 : wr.cell? ⟨p, 2, none⟩ = some (.int .i64 s) := keepc hB hc2
      have hbs := hB.size
      by_cases hlt : k < s
      · obtain ⟨hl, gs, g1, g2, g3, g4⟩ := hP
        go_wp2_with (at_builtin; refine wpList_append_lies _ rfl _ _ 32 rfl (w.heap.size) 37 i0 (.slice none 0 0) 1 24 Tryd.underlying32 hi0 hz0 hz1 hz2 rfl (by decide) _ _ _ rfl ((g2.alloc _).alloc _) ⟨wr.heap.size + 1, 0, none⟩ 1 1 [.slice (some ⟨wr.heap.size, 0, none⟩) 2 2] rfl rfl (cell_one_new2 _ _ _ _ (by simp)) (by simp [Value.oneCell']) (by decide) (by unfold maxLen; omega) (by omega) (by simp; omega) (wr.heap.size + 1 + 1) (by simp) ?_; intro gn cap w1 hown1 hgrow1 hat1 hlt1)
        go_roundw
        case rel =>
          have h5 := OwnP.app (p := (_, _)) hbs hl g1 g2 g3 g4 hown1 hgrow1 hat1
          exact ⟨k + 1, by omega, by go_num, OwnP.next h5 (by (simp [stepP])), below_app3 hB hbs g2 hgrow1⟩
        case measure => simp [intOf]; omega
      · obtain rfl : k = s := by omega
        obtain ⟨A, c, rfl⟩ := OwnP.form hP
        go_wp2
        skip
        go_ret
        exact ⟨_, _, _, rfl, hP, by first | exact hB | exact below_drewN hB _⟩
  · have hv : pairsL f b s 3 = (List.range f).map (stepP f b 3) := by simp [pairsL, stepN]
    rw [hv]
    clear hv
    go_enter Tryd.func34, Tryd.ntmps34
    go_wp2_with fail
    go_quiet (fail)
    rw [hh]
    go_wp2_with fail
    go_loopw [5, 7] (fun v i wr => ∃ k : Nat, k ≤ f ∧ i = .int .i64 k ∧ OwnP wr w.heap.size v k ((List.range k).map (stepP f b 3)) ∧ Below w.heap.size w wr) (fun _ i _ => f - (intOf i).toNat)
    case atStart =>
      refine ⟨0, Nat.zero_le _, rfl, OwnP.start _ _ (Nat.le_refl _), ?_⟩
      (repeat' (first | (with_reducible exact Below.refl _ _) | (with_reducible assumption) | (with_reducible refine Below.drew ?_) | (with_reducible refine below_drewN ?_ _) | (with_reducible refine Below.setCell ?_ ?_ _) | (with_reducible refine Below.alloc ?_ ?_ _) | go_size))
    case round =>
      obtain ⟨k, hk, rfl, hP, hB⟩ := hrel
      have hd0 : wr.cell? ⟨p, 0, none⟩ = some (.int .i64 f) := keepc hB hc0
      have hd1 : wr.cell? ⟨p, 1, none⟩ = some (.int .i64 b) := keepc hB hc1
      have hd2 : wr.cell? ⟨p, 2, none⟩ = some (.int .i64 s) := keepc hB hc2
      have hbs := hB.size
      by_cases hlt : k < f
      · obtain ⟨hl, gs, g1, g2, g3, g4⟩ := hP
        have e1 : max (0 : Int) ((k : Int) - h) = max 0 ((k : Int) - h) := rfl
        generalize hmx : max (0 : Int) ((k : Int) - h) = mx at e1
        clear e1
        have e2 : min ((b : Int) - 1) mx = min ((b : Int) - 1) mx := rfl
        generalize hmn : min ((b : Int) - 1) mx = mn at e2
        clear e2
        have y1 : IntKind.i64.wrap ((k : Int) - h) = k - h := IntWalk.i64_in _ (by omega)
        have y2 : IntKind.i64.wrap ((b : Int) - 1) = b - 1 := IntWalk.i64_in _ (by omega)
        go_wp2_with fail
        go_region_held3 (fun w' => w'.cell? ⟨p, 1, none⟩ = some (.int .i64 b)) (first | go_keep | (rw [hgrow1.cell_far _ (by simp; omega) (by intro e; exact absurd (World.ownsRow.lt g2 _ e.symm).1 (Nat.not_le.2 hp))]; go_keep)) (first | (first | (go_at_call 42; refine (l00Min_eq _ _ _ _ (by assumption)).mono ?_; rintro e w' ⟨rfl, rfl⟩) | (go_at_call 41; refine (l00Max_eq _ _ _ _ (by assumption)).mono ?_; rintro e w' ⟨rfl, rfl⟩)) | (refine step_append_lies _ (by rfl) _ _ 32 (by rfl) (w.heap.size) 37 i0 (.slice none 0 0) 1 24 Tryd.underlying32 hi0 hz0 hz1 hz2 rfl (by decide) _ _ _ (by rfl) (by exact World.ownsRow.alloc (World.ownsRow.alloc g2 _) _) ⟨wr.heap.size + 1, 0, none⟩ 1 1 [.slice (some ⟨wr.heap.size, 0, none⟩) 2 2] (by rfl) (by rfl) (cell_one_new2 _ _ _ _ (by simp)) (by simp [Value.oneCell']) (by decide) (by unfold maxLen; omega) (by omega) (by simp; omega) (wr.heap.size + 1 + 1) (by simp) ?_; intro gn cap w1 hown1 hgrow1 hat1 hlt1))
        go_wp2
        go_roundw
        case rel =>
          have h5 := OwnP.app (p := (_, _)) hbs hl g1 g2 g3 g4 hown1 (grown_drew hgrow1) hat1
          exact ⟨k + 1, by omega, by go_num, OwnP.next h5 (by (rw [stepP_mid (by omega)]; unfold midI; rw [hh, hmx, hmn])), below_app3 hB hbs g2 (grown_drew hgrow1)⟩
        case measure => simp [intOf]; omega
      · obtain rfl : k = f := by omega
        obtain ⟨A, c, rfl⟩ := OwnP.form hP
        go_wp2
        skip
        go_ret
        exact ⟨_, _, _, rfl, hP, by first | exact hB | exact below_drewN hB _⟩
  · have hv : pairsL f b s 4 = (List.range s).map (stepP f b 4) := by simp [pairsL, stepN]
    rw [hv]
    clear hv
    go_enter Tryd.func34, Tryd.ntmps34
    go_wp2_with fail
    go_quiet (fail)
    rw [hh]
    go_wp2_with fail
    go_loopw [5, 8] (fun v i wr => ∃ k : Nat, k ≤ s ∧ i = .int .i64 k ∧ OwnP wr w.heap.size v k ((List.range k).map (stepP f b 4)) ∧ Below w.heap.size w wr) (fun _ i _ => s - (intOf i).toNat)
    case atStart =>
      refine ⟨0, Nat.zero_le _, rfl, OwnP.start _ _ (Nat.le_refl _), ?_⟩
      (repeat' (first | (with_reducible exact Below.refl _ _) | (with_reducible assumption) | (with_reducible refine Below.drew ?_) | (with_reducible refine below_drewN ?_ _) | (with_reducible refine Below.setCell ?_ ?_ _) | (with_reducible refine Below.alloc ?_ ?_ _) | go_size))
    case round =>
      obtain ⟨k, hk, rfl, hP, hB⟩ := hrel
      have hd0 : wr.cell? ⟨p, 0, none⟩ = some (.int .i64 f) := keepc hB hc0
      have hd1 : wr.cell? ⟨p, 1, none⟩ = some (.int .i64 b) := keepc hB hc1
      have hd2 : wr.cell? ⟨p, 2, none⟩ = some (.int .i64 s) := keepc hB hc2
      have hbs := hB.size
      by_cases hlt : k < s
      · obtain ⟨hl, gs, g1, g2, g3, g4⟩ := hP
        go_wp2_with (at_builtin; refine wpList_append_lies _ rfl _ _ 32 rfl (w.heap.size) 37 i0 (.slice none 0 0) 1 24 Tryd.underlying32 hi0 hz0 hz1 hz2 rfl (by decide) _ _ _ rfl ((g2.alloc _).alloc _) ⟨wr.heap.size + 1, 0, none⟩ 1 1 [.slice (some ⟨wr.heap.size, 0, none⟩) 2 2] rfl rfl (cell_one_new2 _ _ _ _ (by simp)) (by simp [Value.oneCell']) (by decide) (by unfold maxLen; omega) (by omega) (by simp; omega) (wr.heap.size + 1 + 1) (by simp) ?_; intro gn cap w1 hown1 hgrow1 hat1 hlt1)
        go_roundw
        case rel =>
          have h5 := OwnP.app (p := (_, _)) hbs hl g1 g2 g3 g4 hown1 hgrow1 hat1
          exact ⟨k + 1, by omega, by go_num, OwnP.next h5 (by (simp [stepP])), below_app3 hB hbs g2 hgrow1⟩
        case measure => simp [intOf]; omega
      · obtain rfl : k = s := by omega
        obtain ⟨A, c, rfl⟩ := OwnP.form hP
        go_wp2
        skip
        go_ret
        exact ⟨_, _, _, rfl, hP, by first | exact hB | exact below_drewN hB _⟩
  · have hv : pairsL f b s 5 = (List.range f).map (stepP f b 5) := by simp [pairsL, stepN, Nat.min_eq_left hfs]
    have hmin : min (f : Int) s = f := by omega
    rw [hv]
    clear hv
    go_enter Tryd.func34, Tryd.ntmps34
    go_wp2_with fail
    go_quiet (fail)
    rw [hh]
    go_wp2_with fail
    go_loopw [5, 9] (fun v i wr => ∃ k : Nat, k ≤ f ∧ i = .int .i64 k ∧ OwnP wr w.heap.size v k ((List.range k).map (stepP f b 5)) ∧ Below w.heap.size w wr) (fun _ i _ => f - (intOf i).toNat)
    case atStart =>
      refine ⟨0, Nat.zero_le _, rfl, OwnP.start _ _ (Nat.le_refl _), ?_⟩
      (repeat' (first | (with_reducible exact Below.refl _ _) | (with_reducible assumption) | (with_reducible refine Below.drew ?_) | (with_reducible refine below_drewN ?_ _) | (with_reducible refine Below.setCell ?_ ?_ _) | (with_reducible refine Below.alloc ?_ ?_ _) | go_size))
    case round =>
      obtain ⟨k, hk, rfl, hP, hB⟩ := hrel
      have hd0 : wr.cell? ⟨p, 0, none⟩ = some (.int .i64 f) := keepc hB hc0
      have hd1 : wr.cell? ⟨p, 1, none⟩ = some (.int .i64 b) := keepc hB hc1
      have hd2 : wr.cell? ⟨p, 2, none⟩ = some (.int .i64 s) := keepc hB hc2
      have hbs := hB.size
      by_cases hlt : k < f
      · obtain ⟨hl, gs, g1, g2, g3, g4⟩ := hP
        go_wp2_with fail
        go_quiet (first | (go_at_call 42; exact Calls.quiet_of_same (l00Min_eq _ _ _ _ (by assumption))) | (go_at_call 41; exact Calls.quiet_of_same (l00Max_eq _ _ _ _ (by assumption))))
        go_wp2_with (at_builtin; refine wpList_append_lies _ rfl _ _ 32 rfl (w.heap.size) 37 i0 (.slice none 0 0) 1 24 Tryd.underlying32 hi0 hz0 hz1 hz2 rfl (by decide) _ _ _ rfl ((g2.alloc _).alloc _) ⟨wr.heap.size + 1, 0, none⟩ 1 1 [.slice (some ⟨wr.heap.size, 0, none⟩) 2 2] rfl rfl (cell_one_new2 _ _ _ _ (by simp)) (by simp [Value.oneCell']) (by decide) (by unfold maxLen; omega) (by omega) (by simp; omega) (wr.heap.size + 1 + 1) (by simp) ?_; intro gn cap w1 hown1 hgrow1 hat1 hlt1)
        go_roundw
        case rel =>
          have h5 := OwnP.app (p := (_, _)) hbs hl g1 g2 g3 g4 hown1 (grown_undrawn hgrow1) hat1
          exact ⟨k + 1, by omega, by go_num, OwnP.next h5 (by (simp [stepP])), below_app3 hB hbs g2 (grown_undrawn hgrow1)⟩
        case measure => simp [intOf]; omega
      · obtain rfl : k = f := by omega
        obtain ⟨A, c, rfl⟩ := OwnP.form hP
        go_wp2
        (go_quiet (first | (go_at_call 42; exact Calls.quiet_of_same (l00Min_eq _ _ _ _ (by assumption))) | (go_at_call 41; exact Calls.quiet_of_same (l00Max_eq _ _ _ _ (by assumption)))); go_wp2)
        go_ret
        exact ⟨_, _, _, rfl, hP, by first | exact hB | exact below_drewN hB _⟩
  · have hv : pairsL f b s 5 = (List.range s).map (stepP f b 5) := by simp [pairsL, stepN, Nat.min_eq_right (Nat.le_of_lt hsf)]
    have hmin : min (f : Int) s = s := by omega
    rw [hv]
    clear hv
    go_enter Tryd.func34, Tryd.ntmps34
    go_wp2_with fail
    go_quiet (fail)
    rw [hh]
    go_wp2_with fail
    go_loopw [5, 9] (fun v i wr => ∃ k : Nat, k ≤ s ∧ i = .int .i64 k ∧ OwnP wr w.heap.size v k ((List.range k).map (stepP f b 5)) ∧ Below w.heap.size w wr) (fun _ i _ => s - (intOf i).toNat)
    case atStart =>
      refine ⟨0, Nat.zero_le _, rfl, OwnP.start _ _ (Nat.le_refl _), ?_⟩
      (repeat' (first | (with_reducible exact Below.refl _ _) | (with_reducible assumption) | (with_reducible refine Below.drew ?_) | (with_reducible refine below_drewN ?_ _) | (with_reducible refine Below.setCell ?_ ?_ _) | (with_reducible refine Below.alloc ?_ ?_ _) | go_size))
    case round =>
      obtain ⟨k, hk, rfl, hP, hB⟩ := hrel
      have hd0 : wr.cell? ⟨p, 0, none⟩ = some (.int .i64 f) := keepc hB hc0
      have hd1 : wr.cell? ⟨p, 1, none⟩ = some (.int .i64 b) := keepc hB hc1
      have hd2 : wr.cell? ⟨p, 2, none⟩ = some (.int .i64 s) := keepc hB hc2
      have hbs := hB.size
      by_cases hlt : k < s
      · obtain ⟨hl, gs, g1, g2, g3, g4⟩ := hP
        go_wp2_with fail
        go_quiet (first | (go_at_call 42; exact Calls.quiet_of_same (l00Min_eq _ _ _ _ (by assumption))) | (go_at_call 41; exact Calls.quiet_of_same (l00Max_eq _ _ _ _ (by assumption))))
        go_wp2_with (at_builtin; refine wpList_append_lies _ rfl _ _ 32 rfl (w.heap.size) 37 i0 (.slice none 0 0) 1 24 Tryd.underlying32 hi0 hz0 hz1 hz2 rfl (by decide) _ _ _ rfl ((g2.alloc _).alloc _) ⟨wr.heap.size + 1, 0, none⟩ 1 1 [.slice (some ⟨wr.heap.size, 0, none⟩) 2 2] rfl rfl (cell_one_new2 _ _ _ _ (by simp)) (by simp [Value.oneCell']) (by decide) (by unfold maxLen; omega) (by omega) (by simp; omega) (wr.heap.size + 1 + 1) (by simp) ?_; intro gn cap w1 hown1 hgrow1 hat1 hlt1)
        go_roundw
        case rel =>
          have h5 := OwnP.app (p := (_, _)) hbs hl g1 g2 g3 g4 hown1 (grown_undrawn hgrow1) hat1
          exact ⟨k + 1, by omega, by go_num, OwnP.next h5 (by (simp [stepP])), below_app3 hB hbs g2 (grown_undrawn hgrow1)⟩
        case measure => simp [intOf]; omega
      · obtain rfl : k = s := by omega
        obtain ⟨A, c, rfl⟩ := OwnP.form hP
        go_wp2
        (go_quiet (first | (go_at_call 42; exact Calls.quiet_of_same (l00Min_eq _ _ _ _ (by assumption))) | (go_at_call 41; exact Calls.quiet_of_same (l00Max_eq _ _ _ _ (by assumption)))); go_wp2)
        go_ret
        exact ⟨_, _, _, rfl, hP, by first | exact hB | exact below_drewN hB _⟩
  · have hv : pairsL f b s 6 = (List.range f).map (stepP f b 6) := by simp [pairsL, stepN, Nat.min_eq_left hfs]
    have hmin : min (f : Int) s = f := by omega
    rw [hv]
    clear hv
    go_enter Tryd.func34, Tryd.ntmps34
    go_wp2_with fail
    go_quiet (fail)
    rw [hh]
    go_wp2_with fail
    go_loopw [5, 10] (fun v i wr => ∃ k : Nat, k ≤ f ∧ i = .int .i64 k ∧ OwnP wr w.heap.size v k ((List.range k).map (stepP f b 6)) ∧ Below w.heap.size w wr) (fun _ i _ => f - (intOf i).toNat)
    case atStart =>
      refine ⟨0, Nat.zero_le _, rfl, OwnP.start _ _ (Nat.le_refl _), ?_⟩
      (repeat' (first | (with_reducible exact Below.refl _ _) | (with_reducible assumption) | (with_reducible refine Below.drew ?_) | (with_reducible refine below_drewN ?_ _) | (with_reducible refine Below.setCell ?_ ?_ _) | (with_reducible refine Below.alloc ?_ ?_ _) | go_size))
    case round =>
      obtain ⟨k, hk, rfl, hP, hB⟩ := hrel
      have hd0 : wr.cell? ⟨p, 0, none⟩ = some (.int .i64 f) := keepc hB hc0
      have hd1 : wr.cell? ⟨p, 1, none⟩ = some (.int .i64 b) := keepc hB hc1
      have hd2 : wr.cell? ⟨p, 2, none⟩ = some (.int .i64 s) := keepc hB hc2
      have hbs := hB.size
      by_cases hlt : k < f
      · obtain ⟨hl, gs, g1, g2, g3, g4⟩ := hP
        go_wp2_with fail
        go_quiet (first | (go_at_call 42; exact Calls.quiet_of_same (l00Min_eq _ _ _ _ (by assumption))) | (go_at_call 41; exact Calls.quiet_of_same (l00Max_eq _ _ _ _ (by assumption))))
        go_wp2_with (at_builtin; refine wpList_append_lies _ rfl _ _ 32 rfl (w.heap.size) 37 i0 (.slice none 0 0) 1 24 Tryd.underlying32 hi0 hz0 hz1 hz2 rfl (by decide) _ _ _ rfl ((g2.alloc _).alloc _) ⟨wr.heap.size + 1, 0, none⟩ 1 1 [.slice (some ⟨wr.heap.size, 0, none⟩) 2 2] rfl rfl (cell_one_new2 _ _ _ _ (by simp)) (by simp [Value.oneCell']) (by decide) (by unfold maxLen; omega) (by omega) (by simp; omega) (wr.heap.size + 1 + 1) (by simp) ?_; intro gn cap w1 hown1 hgrow1 hat1 hlt1)
        go_roundw
        case rel =>
          have h5 := OwnP.app (p := (_, _)) hbs hl g1 g2 g3 g4 hown1 (grown_undrawn hgrow1) hat1
          exact ⟨k + 1, by omega, by go_num, OwnP.next h5 (by (simp [stepP])), below_app3 hB hbs g2 (grown_undrawn hgrow1)⟩
        case measure => simp [intOf]; omega
      · obtain rfl : k = f := by omega
        obtain ⟨A, c, rfl⟩ := OwnP.form hP
        go_wp2
        (go_quiet (first | (go_at_call 42; exact Calls.quiet_of_same (l00Min_eq _ _ _ _ (by assumption))) | (go_at_call 41; exact Calls.quiet_of_same (l00Max_eq _ _ _ _ (by assumption)))); go_wp2)
        go_ret
        exact ⟨_, _, _, rfl, hP, by first | exact hB | exact below_drewN hB _⟩
  · have hv : pairsL f b s 6 = (List.range s).map (stepP f b 6) := by simp [pairsL, stepN, Nat.min_eq_right (Nat.le_of_lt hsf)]
    have hmin : min (f : Int) s = s := by omega
    rw [hv]
    clear hv
    go_enter Tryd.func34, Tryd.ntmps34
    go_wp2_with fail
    go_quiet (fail)
    rw [hh]
    go_wp2_with fail
    go_loopw [5, 10] (fun v i wr => ∃ k : Nat, k ≤ s ∧ i = .int .i64 k ∧ OwnP wr w.heap.size v k ((List.range k).map (stepP f b 6)) ∧ Below w.heap.size w wr) (fun _ i _ => s - (intOf i).toNat)
    case atStart =>
      refine ⟨0, Nat.zero_le _, rfl, OwnP.start _ _ (Nat.le_refl _), ?_⟩
      (repeat' (first | (with_reducible exact Below.refl _ _) | (with_reducible assumption) | (with_reducible refine Below.drew ?_) | (with_reducible refine below_drewN ?_ _) | (with_reducible refine Below.setCell ?_ ?_ _) | (with_reducible refine Below.alloc ?_ ?_ _) | go_size))
    case round =>
      obtain ⟨k, hk, rfl, hP, hB⟩ := hrel
      have hd0 : wr.cell? ⟨p, 0, none⟩ = some (.int .i64 f) := keepc hB hc0
      have hd1 : wr.cell? ⟨p, 1, none⟩ = some (.int .i64 b) := keepc hB hc1
      have hd2 : wr.cell? ⟨p, 2, none⟩ = some (.int .i64 s) := keepc hB hc2
      have hbs := hB.size
      by_cases hlt : k < s
      · obtain ⟨hl, gs, g1, g2, g3, g4⟩ := hP
        go_wp2_with fail
        go_quiet (first | (go_at_call 42; exact Calls.quiet_of_same (l00Min_eq _ _ _ _ (by assumption))) | (go_at_call 41; exact Calls.quiet_of_same (l00Max_eq _ _ _ _ (by assumption))))
        go_wp2_with (at_builtin; refine wpList_append_lies _ rfl _ _ 32 rfl (w.heap.size) 37 i0 (.slice none 0 0) 1 24 Tryd.underlying32 hi0 hz0 hz1 hz2 rfl (by decide) _ _ _ rfl ((g2.alloc _).alloc _) ⟨wr.heap.size + 1, 0, none⟩ 1 1 [.slice (some ⟨wr.heap.size, 0, none⟩) 2 2] rfl rfl (cell_one_new2 _ _ _ _ (by simp)) (by simp [Value.oneCell']) (by decide) (by unfold maxLen; omega) (by omega) (by simp; omega) (wr.heap.size + 1 + 1) (by simp) ?_; intro gn cap w1 hown1 hgrow1 hat1 hlt1)
        go_roundw
        case rel =>
          have h5 := OwnP.app (p := (_, _)) hbs hl g1 g2 g3 g4 hown1 (grown_undrawn hgrow1) hat1
          exact ⟨k + 1, by omega, by go_num, OwnP.next h5 (by (simp [stepP])), below_app3 hB hbs g2 (grown_undrawn hgrow1)⟩
        case measure => simp [intOf]; omega
      · obtain rfl : k = s := by omega
        obtain ⟨A, c, rfl⟩ := OwnP.form hP
        go_wp2
        (go_quiet (first | (go_at_call 42; exact Calls.quiet_of_same (l00Min_eq _ _ _ _ (by assumption))) | (go_at_call 41; exact Calls.quiet_of_same (l00Max_eq _ _ _ _ (by assumption)))); go_wp2)
        go_ret
        exact ⟨_, _, _, rfl, hP, by first | exact hB | exact below_drewN hB _⟩
end Go.Proofs.YtgjjmgneekjapaaDoor
