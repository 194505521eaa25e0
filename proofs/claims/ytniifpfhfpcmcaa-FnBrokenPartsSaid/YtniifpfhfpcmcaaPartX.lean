/- Contract: l16Parts. -/
import Derived.Test.YtniifpfhfpcmcaaPartW
namespace Go.Proofs.Ytniifpfhfpcmcaa
open Go.RowKit
set_option linter.unusedVariables false
set_option linter.unusedSimpArgs false

def AllTo (s : Nat) (zs : List Int) (f : Int) (m : Nat) : Prop := ∀ j, j < m → hasI zs (at_ s f j) = true
theorem allTo_succ {s : Nat} {zs : List Int} {f : Int} {m : Nat} (h : AllTo s zs f m) (hm : hasI zs (at_ s f m) = true) : AllTo s zs f (m + 1) := fun j hj => by
  rcases Nat.lt_succ_iff_lt_or_eq.1 hj with h1 | rfl
  · exact h j h1
  · exact hm
set_option maxHeartbeats 2000000 in
theorem l16Parts_any (s : Nat) (A : Option Addr) (n c : Nat) (zs : List Int) (w : World) (h : Ints w A n zs) (hr : Ris s zs) (s0 : 3 ≤ s) (s1 : s ≤ 60) : Calls Try.prog 56 #[.int .i64 s, .slice A n c] w fun e w' =>
    ∃ B q d, e = .returned (.slice B q d) ∧ OwnP w' w.heap.size (.slice B q d) q (partsL s zs) ∧ Below w.heap.size w w' := by
  obtain ⟨i0, hi0, hz0, hz1, hz2⟩ := info_parts info_ss
  have hns : n ≤ s := by rw [← h.1]; exact hr.len
  have hn : n ≤ 1048576 := by omega
  have HL := Lib.hid h.1
  by_cases hful : n = s
  · have hv := partsL_full hr (by omega) (by rw [h.1]; exact hful)
    rw [hv]
    subst hful
    clear hv
    have hP := OwnP.start w w.heap.size (Nat.le_refl _)
    obtain ⟨hl, gs, g1, g2, g3, g4⟩ := hP
    have t1 : ((n : Int) == (n : Int)) = true := by simp
    have hB : Below w.heap.size w (w.alloc (.cells #[] 22)) := (Below.refl _ _).alloc (Nat.le_refl _) _
    have hbs := hB.size
    go_enter Try.func56, Try.ntmps56
    go_wp2_with (at_builtin; refine wpList_append_lies _ rfl _ _ 36 rfl w.heap.size 22 i0 (.slice none 0 0) 1 24 Try.underlying36 hi0 hz0 hz1 hz2 rfl (by decide) _ _ _ rfl ((g2.alloc _).alloc _) ⟨w.heap.size + 1 + 1, 0, none⟩ 1 1 [.slice (some ⟨w.heap.size + 1, 0, none⟩) 2 2] rfl rfl (cell_one_new2 _ _ _ _ (by simp)) (by simp [Value.oneCell']) (by decide) (by unfold maxLen; omega) (by omega) (by simp; omega) (w.heap.size + 1 + 1 + 1) (by simp) ?_; intro gn cap w1 hown1 hgrow1 hat1 hlt1)
    go_ret
    have h5 := OwnP.app (wr := w.alloc (.cells #[] 22)) (p := (0, (n : Int))) hbs hl g1 g2 g3 g4 (by rw [World.size_alloc]; exact hown1) hgrow1 (by rw [World.size_alloc]; exact hat1)
    exact ⟨_, _, _, rfl, h5, below_app3 hB hbs g2 hgrow1⟩
  have hlt' : n < s := by omega
  have tne : ((n : Int) == (s : Int)) = false := by rw [beq_eq_false_iff_ne]; omega
  go_enter Try.func56, Try.ntmps56
  go_wp2_with fail
  go_loopw [5, 6] (fun v i wr => ∃ k : Nat, k ≤ n ∧ i = .int .i64 k ∧ (∃ q : Nat, q ≤ k ∧ OwnP wr w.heap.size v q (partsK s zs k)) ∧ Below w.heap.size w wr) (fun _ i _ => n - (intOf i).toNat)
  case atStart =>
    refine ⟨0, Nat.zero_le _, rfl, ⟨0, Nat.le_refl _, by simpa [partsK] using OwnP.start w w.heap.size (Nat.le_refl _)⟩, ?_⟩
    (repeat' (first | (with_reducible exact Below.refl _ _) | (with_reducible assumption) | (with_reducible refine Below.drew ?_) | (with_reducible refine below_drewN ?_ _) | (with_reducible refine Below.setCell ?_ ?_ _) | (with_reducible refine Below.alloc ?_ ?_ _) | go_size))
  case round =>
    obtain ⟨k, hk, rfl, ⟨q, hqk, hP⟩, hB⟩ := hrel
    obtain ⟨B, d, rfl⟩ := OwnP.form hP
    by_cases hlt : k < n
    · have hzk := h.keep hB
      obtain ⟨b, off, z, rfl, hblt, hz, hcz⟩ := hzk.at_ hlt
      have hzm := List.mem_of_getElem? hz
      obtain ⟨z0, z1⟩ := hr.rng z hzm
      have HN := Lib.hid (partsK_no (s := s) hz)
      have HY := Lib.hid (fun v => partsK_yes (s := s) (v := v) hz)
      obtain ⟨M, hM, hMf⟩ := run_ends hr (by omega) (by rw [HL.out]; exact hlt') z0 z1
      have HMf := Lib.hid hMf
      have h0 : hasI zs (at_ s z 0) = true := by
        rw [hasI_iff]
        unfold at_
        rw [show z + ((0 : Nat) : Int) = z by omega, Int.emod_eq_of_lt z0 z1]
        exact hzm
      have H0 := Lib.hid h0
      have hbs := hB.size
      have hnl : zs.length ≠ s := by rw [HL.out]; omega
      have Hnl := Lib.hid hnl
      clear hz hzm hMf h0 hnl
      cases h1 : hasI zs ((z + s - 1) % s)
      · have hst : startB s zs z = true := by unfold startB; rw [h1]; rfl
        have Hst := Lib.hid hst
        clear hst
        obtain ⟨hl, gs, g1, g2, g3, g4⟩ := hP
        go_wp2_with (go_at_call 55; refine (l00Has_eq _ _ _ _ _ _ _ hzk hn (by assumption)).mono ?_; rintro e w' ⟨rfl, rfl⟩)
        go_loop [8] (fun m => ∃ j : Nat, j ≤ M ∧ m = .int .i64 j ∧ AllTo s zs z j) (fun m => M - (intOf m).toNat)
        case atStart => exact ⟨0, by omega, rfl, fun j h1 => by omega⟩
        case round =>
          obtain ⟨j, j2, rfl, hrt⟩ := hrel
          cases h2 : hasI zs ((z + j) % s)
          · have hj1 : 1 ≤ j := by
              rcases Nat.eq_zero_or_pos j with rfl | hp
              · have := H0.out; unfold at_ at this; rw [this] at h2; cases h2
              · exact hp
            have Hrun := Lib.hid (runLen_eq (s := s) (zs := zs) (f := z) (v := j) ⟨hj1, by omega, fun i h3 _ => hrt i h3, .inr h2⟩)
            go_wp2_with (first | (go_at_call 55; refine (l00Has_eq _ _ _ _ _ _ _ hzk hn (by assumption)).mono ?_; rintro e w' ⟨rfl, rfl⟩) | (at_builtin; refine wpList_append_lies _ rfl _ _ 36 rfl (w.heap.size) 22 i0 (.slice none 0 0) 1 24 Try.underlying36 hi0 hz0 hz1 hz2 rfl (by decide) _ _ _ rfl ((g2.alloc _).alloc _) ⟨wr.heap.size + 1, 0, none⟩ 1 1 [.slice (some ⟨wr.heap.size, 0, none⟩) 2 2] rfl rfl (cell_one_new2 _ _ _ _ (by simp)) (by simp [Value.oneCell']) (by decide) (by unfold maxLen; omega) (by omega) (by simp; omega) (wr.heap.size + 1 + 1) (by simp) ?_; intro gn cap w1 hown1 hgrow1 hat1 hlt1))
            go_roundw
            case rel =>
              have h5 := OwnP.app (p := (z, (j : Int))) hbs hl g1 g2 g3 g4 hown1 hgrow1 hat1
              exact ⟨k + 1, by omega, by go_num, ⟨q + 1, by omega, by rw [HY.out _ Hst.out Hrun.out]; exact h5⟩, below_app3 hB hbs g2 hgrow1⟩
            case measure => simp [intOf]; omega
          · have hjM : j < M := by
              rcases Nat.lt_or_ge j M with h3 | h3
              · exact h3
              · obtain rfl : j = M := by omega
                have := HMf.out; unfold at_ at this; rw [this] at h2; cases h2
            go_wp2_with (go_at_call 55; refine (l00Has_eq _ _ _ _ _ _ _ hzk hn (by assumption)).mono ?_; rintro e w' ⟨rfl, rfl⟩)
            go_round
            case rel => exact ⟨j + 1, by omega, by go_num, allTo_succ hrt h2⟩
            case measure => simp [intOf]; omega
      · have hst : startB s zs z = false := by unfold startB; rw [h1, decide_eq_false Hnl.out]; rfl
        have Hst := Lib.hid hst
        clear hst
        go_wp2_with (go_at_call 55; refine (l00Has_eq _ _ _ _ _ _ _ hzk hn (by assumption)).mono ?_; rintro e w' ⟨rfl, rfl⟩)
        go_roundw
        case rel => exact ⟨k + 1, by omega, by go_num, ⟨q, by omega, by rw [HN.out Hst.out]; exact hP⟩, hB⟩
        case measure => simp [intOf]; omega
    · obtain rfl : k = n := by omega
      go_wp2
      go_ret
      rw [partsK_all HL.out] at hP
      obtain rfl : q = (partsL s zs).length := hP.len.symm
      exact ⟨_, _, _, rfl, hP, hB⟩
end Go.Proofs.Ytniifpfhfpcmcaa
