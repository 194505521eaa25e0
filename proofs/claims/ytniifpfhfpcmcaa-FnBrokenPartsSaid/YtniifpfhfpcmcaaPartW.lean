/- Contracts: partsOf, l16Parts. -/
import Derived.Test.YtniifpfhfpcmcaaPartM
import Derived.Test.YtniifpfhfpcmcaaPair
import Derived.Deep.Onto
namespace Go.Proofs.Ytniifpfhfpcmcaa
open Go.RowKit
set_option linter.unusedVariables false
set_option linter.unusedSimpArgs false

theorem cell_one_new2 (w : World) (v : Value) (t B : Nat) (hB : B = w.heap.size) : ∀ j u, [v][j]? = some u → (w.alloc (.cells #[v] t)).cell? ((⟨B, 0, none⟩ : Addr).add j) = some u := by
  subst hB; exact cell_one_new w v t
theorem below_app3 {W0 wr w1 : World} {B e size n : Nat} {v : Value} {xs : List Value} {o o2 : Obj} (hB : Below B W0 wr) (hs : B ≤ wr.heap.size) (hown : wr.ownsRow B e size v n xs) (hg : ((wr.alloc o).alloc o2).grownBy w1 v.ownBlock) : Below B W0 w1 :=
  ((hB.alloc hs o).alloc (by simp; omega) o2).grown hg (by simp; omega) (fun k hk => (World.ownsRow.lt hown k hk).1)
theorem OwnP.form {w : World} {base n : Nat} {v : Value} {ps : List (Int × Int)} (h : OwnP w base v n ps) : ∃ A c, v = .slice A n c := by
  obtain ⟨hl, gs, h1, h2, h3, h4⟩ := h
  rcases h2.2 with ⟨rfl, rfl⟩ | ⟨g, cap, cur, rfl, _⟩
  · exact ⟨_, _, rfl⟩
  · exact ⟨_, _, rfl⟩
theorem OwnP.mono {w : World} {base base' : Nat} {v : Value} {n : Nat} {ps : List (Int × Int)} (h : OwnP w base v n ps) (hb : base' ≤ base) : OwnP w base' v n ps := by
  obtain ⟨hl, gs, h1, h2, h3, h4⟩ := h
  exact ⟨hl, gs, h1, World.ownsRow.mono h2 hb, h3, fun j g p hg hp => by obtain ⟨a1, a2, a3⟩ := h4 j g p hg hp; exact ⟨by omega, a2, a3⟩⟩
/-- The parts that begin among the first k. -/
def partsK (s : Nat) (zs : List Int) (k : Nat) : List (Int × Int) := ((zs.take k).filter (startB s zs)).map fun f => (f, (runLen s zs f : Int))
theorem partsK_all {s : Nat} {zs : List Int} {n : Nat} (h : zs.length = n) : partsK s zs n = partsL s zs := by unfold partsK partsL; rw [List.take_of_length_le (by omega)]
theorem partsK_no {s : Nat} {zs : List Int} {k : Nat} {z : Int} (hz : zs[k]? = some z) (h : startB s zs z = false) : partsK s zs (k + 1) = partsK s zs k := by
  unfold partsK; rw [filter_take_succ _ hz, h]; simp
theorem partsK_yes {s : Nat} {zs : List Int} {k : Nat} {z : Int} {v : Nat} (hz : zs[k]? = some z) (h : startB s zs z = true) (hv : runLen s zs z = v) : partsK s zs (k + 1) = partsK s zs k ++ [(z, (v : Int))] := by
  unfold partsK; rw [filter_take_succ _ hz, h]; simp [hv]
theorem partsK_len {s : Nat} {zs : List Int} {k : Nat} : (partsK s zs k).length ≤ k := by
  unfold partsK
  rw [List.length_map]
  exact Nat.le_trans (List.length_filter_le _ _) (by simp; omega)
def RunTill (s : Nat) (zs : List Int) (f : Int) (m : Nat) : Prop := ∀ j, j < m → 0 < j → hasI zs (at_ s f j) = true
theorem runTill_succ {s : Nat} {zs : List Int} {f : Int} {m : Nat} (h : RunTill s zs f m) (hm : hasI zs (at_ s f m) = true) : RunTill s zs f (m + 1) := fun j hj h0 => by
  rcases Nat.lt_succ_iff_lt_or_eq.1 hj with h1 | rfl
  · exact h j h1 h0
  · exact hm
set_option maxHeartbeats 2000000 in
theorem partsOf_any (s : Nat) (A : Option Addr) (n c : Nat) (zs : List Int) (w : World) (h : Ints w A n zs) (hr : Ris s zs) (s0 : 3 ≤ s) (s1 : s ≤ 60) : Calls Try.prog 49 #[.int .i64 s, .slice A n c] w fun e w' =>
    ∃ B q d, e = .returned (.slice B q d) ∧ OwnP w' w.heap.size (.slice B q d) q (partsL s zs) ∧ Below w.heap.size w w' := by
  obtain ⟨i0, hi0, hz0, hz1, hz2⟩ := info_parts info_ss
  have hns : n ≤ s := by rw [← h.1]; exact hr.len
  have hn : n ≤ 1048576 := by omega
  have HL := Lib.hid h.1
  go_enter Try.func49, Try.ntmps49
  go_wp2_with fail
  go_loopw [5, 12] (fun v i wr => ∃ k : Nat, k ≤ n ∧ i = .int .i64 k ∧ (∃ q : Nat, q ≤ k ∧ OwnP wr w.heap.size v q (partsK s zs k)) ∧ Below w.heap.size w wr) (fun _ i _ => n - (intOf i).toNat)
  case atStart =>
    refine ⟨0, Nat.zero_le _, rfl, ⟨0, Nat.le_refl _, by simpa [partsK] using OwnP.start w w.heap.size (Nat.le_refl _)⟩, ?_⟩
    (repeat' (first | (with_reducible exact Below.refl _ _) | (with_reducible assumption) | (with_reducible refine Below.drew ?_) | (with_reducible refine below_drewN ?_ _) | (with_reducible refine Below.setCell ?_ ?_ _) | (with_reducible refine Below.alloc ?_ ?_ _) | go_size))
  case round =>
    obtain ⟨k, hk, rfl, ⟨q, hqk, hP⟩, hB⟩ := hrel
    obtain ⟨B, d, rfl⟩ := OwnP.form hP
    by_cases hlt : k < n
    · have hzk := h.keep hB
      obtain ⟨b, off, z, rfl, hblt, hz, hcz⟩ := hzk.at_ hlt
      obtain ⟨z0, z1⟩ := hr.rng z (List.mem_of_getElem? hz)
      have HN := Lib.hid (partsK_no (s := s) hz)
      have HY := Lib.hid (fun v => partsK_yes (s := s) (v := v) hz)
      have hbs := hB.size
      clear hz
      cases hst : startB s zs z
      · have hst' := hst
        unfold startB at hst'
        cases h1 : hasI zs ((z + s - 1) % s)
        · rw [h1] at hst'; simp at hst'
        have Hst := Lib.hid hst
        by_cases hns2 : n < s
        · have t1 : (n : Int) < (s : Int) := by omega
          clear hst hst'
          go_wp2_with (go_at_call 47; refine (contains_eq _ _ _ _ _ _ _ hzk hn (by assumption)).mono ?_; rintro e w' ⟨rfl, rfl⟩)
          go_roundw
          case rel => exact ⟨k + 1, by omega, by go_num, ⟨q, by omega, by rw [HN.out Hst.out]; exact hP⟩, hB⟩
          case measure => simp [intOf]; omega
        · have t1 : ¬ (n : Int) < (s : Int) := by omega
          have hz00 : z ≠ 0 := by
            intro e
            rw [h1, HL.out, e] at hst'
            have : n = s := by omega
            simp [this] at hst'
          have t2 : 0 < z := by omega
          clear hst hst' hz00
          go_wp2_with (go_at_call 47; refine (contains_eq _ _ _ _ _ _ _ hzk hn (by assumption)).mono ?_; rintro e w' ⟨rfl, rfl⟩)
          go_roundw
          case rel => exact ⟨k + 1, by omega, by go_num, ⟨q, by omega, by rw [HN.out Hst.out]; exact hP⟩, hB⟩
          case measure => simp [intOf]; omega
      · have hst' := hst
        unfold startB at hst'
        have Hst := Lib.hid hst
        have hcase : hasI zs ((z + s - 1) % s) = false ∨ (hasI zs ((z + s - 1) % s) = true ∧ n = s ∧ z = 0) := by
          cases h1 : hasI zs ((z + s - 1) % s)
          · exact .inl rfl
          · rw [h1, HL.out] at hst'; simp at hst'; exact .inr ⟨rfl, hst'⟩
        clear hst hst'
        rcases hcase with h1 | ⟨h1, hns2, hz00⟩
        · go_wp2_with (go_at_call 47; refine (contains_eq _ _ _ _ _ _ _ hzk hn (by assumption)).mono ?_; rintro e w' ⟨rfl, rfl⟩)
          obtain ⟨hl, gs, g1, g2, g3, g4⟩ := hP
          go_loop [8] (fun m => ∃ j : Nat, 1 ≤ j ∧ j ≤ s ∧ m = .int .i64 j ∧ RunTill s zs z j) (fun m => s - (intOf m).toNat)
          case atStart => exact ⟨1, by omega, by omega, rfl, fun j h1 h2 => by omega⟩
          case round =>
            obtain ⟨j, j1, j2, rfl, hrt⟩ := hrel
            by_cases hjs : j < s
            · have t3 : (j : Int) < (s : Int) := by omega
              cases h2 : hasI zs ((z + j) % s)
              · have Hrun := Lib.hid (runLen_eq (s := s) (zs := zs) (f := z) (v := j) ⟨j1, j2, hrt, .inr h2⟩)
                go_wp2_with (first | (go_at_call 47; refine (contains_eq _ _ _ _ _ _ _ hzk hn (by assumption)).mono ?_; rintro e w' ⟨rfl, rfl⟩) | (at_builtin; refine wpList_append_lies _ rfl _ _ 36 rfl (w.heap.size) 22 i0 (.slice none 0 0) 1 24 Try.underlying36 hi0 hz0 hz1 hz2 rfl (by decide) _ _ _ rfl ((g2.alloc _).alloc _) ⟨wr.heap.size + 1, 0, none⟩ 1 1 [.slice (some ⟨wr.heap.size, 0, none⟩) 2 2] rfl rfl (cell_one_new2 _ _ _ _ (by simp)) (by simp [Value.oneCell']) (by decide) (by unfold maxLen; omega) (by omega) (by simp; omega) (wr.heap.size + 1 + 1) (by simp) ?_; intro gn cap w1 hown1 hgrow1 hat1 hlt1))
                go_roundw
                case rel =>
                  have h5 := OwnP.app (p := (z, (j : Int))) hbs hl g1 g2 g3 g4 hown1 hgrow1 hat1
                  exact ⟨k + 1, by omega, by go_num, ⟨q + 1, by omega, by rw [HY.out _ Hst.out Hrun.out]; exact h5⟩, below_app3 hB hbs g2 hgrow1⟩
                case measure => simp [intOf]; omega
              · go_wp2_with (go_at_call 47; refine (contains_eq _ _ _ _ _ _ _ hzk hn (by assumption)).mono ?_; rintro e w' ⟨rfl, rfl⟩)
                go_round
                case rel => exact ⟨j + 1, by omega, by omega, by go_num, runTill_succ hrt h2⟩
                case measure => simp [intOf]; omega
            · have t3 : ¬ (j : Int) < (s : Int) := by omega
              · have Hrun := Lib.hid (runLen_eq (s := s) (zs := zs) (f := z) (v := j) ⟨j1, j2, hrt, .inl (by omega)⟩)
                go_wp2_with (first | (go_at_call 47; refine (contains_eq _ _ _ _ _ _ _ hzk hn (by assumption)).mono ?_; rintro e w' ⟨rfl, rfl⟩) | (at_builtin; refine wpList_append_lies _ rfl _ _ 36 rfl (w.heap.size) 22 i0 (.slice none 0 0) 1 24 Try.underlying36 hi0 hz0 hz1 hz2 rfl (by decide) _ _ _ rfl ((g2.alloc _).alloc _) ⟨wr.heap.size + 1, 0, none⟩ 1 1 [.slice (some ⟨wr.heap.size, 0, none⟩) 2 2] rfl rfl (cell_one_new2 _ _ _ _ (by simp)) (by simp [Value.oneCell']) (by decide) (by unfold maxLen; omega) (by omega) (by simp; omega) (wr.heap.size + 1 + 1) (by simp) ?_; intro gn cap w1 hown1 hgrow1 hat1 hlt1))
                go_roundw
                case rel =>
                  have h5 := OwnP.app (p := (z, (j : Int))) hbs hl g1 g2 g3 g4 hown1 hgrow1 hat1
                  exact ⟨k + 1, by omega, by go_num, ⟨q + 1, by omega, by rw [HY.out _ Hst.out Hrun.out]; exact h5⟩, below_app3 hB hbs g2 hgrow1⟩
                case measure => simp [intOf]; omega
        · have t1 : ¬ (n : Int) < (s : Int) := by omega
          have t2 : z ≤ 0 := by omega
          have t4 : decide (0 < z) = false := decide_eq_false (by omega)
          have t5 : decide (n < s) = false := decide_eq_false (by omega)
          clear hns2 hz00
          go_wp2_with (go_at_call 47; refine (contains_eq _ _ _ _ _ _ _ hzk hn (by assumption)).mono ?_; rintro e w' ⟨rfl, rfl⟩)
          obtain ⟨hl, gs, g1, g2, g3, g4⟩ := hP
          go_loop [8] (fun m => ∃ j : Nat, 1 ≤ j ∧ j ≤ s ∧ m = .int .i64 j ∧ RunTill s zs z j) (fun m => s - (intOf m).toNat)
          case atStart => exact ⟨1, by omega, by omega, rfl, fun j h1 h2 => by omega⟩
          case round =>
            obtain ⟨j, j1, j2, rfl, hrt⟩ := hrel
            by_cases hjs : j < s
            · have t3 : (j : Int) < (s : Int) := by omega
              cases h2 : hasI zs ((z + j) % s)
              · have Hrun := Lib.hid (runLen_eq (s := s) (zs := zs) (f := z) (v := j) ⟨j1, j2, hrt, .inr h2⟩)
                go_wp2_with (first | (go_at_call 47; refine (contains_eq _ _ _ _ _ _ _ hzk hn (by assumption)).mono ?_; rintro e w' ⟨rfl, rfl⟩) | (at_builtin; refine wpList_append_lies _ rfl _ _ 36 rfl (w.heap.size) 22 i0 (.slice none 0 0) 1 24 Try.underlying36 hi0 hz0 hz1 hz2 rfl (by decide) _ _ _ rfl ((g2.alloc _).alloc _) ⟨wr.heap.size + 1, 0, none⟩ 1 1 [.slice (some ⟨wr.heap.size, 0, none⟩) 2 2] rfl rfl (cell_one_new2 _ _ _ _ (by simp)) (by simp [Value.oneCell']) (by decide) (by unfold maxLen; omega) (by omega) (by simp; omega) (wr.heap.size + 1 + 1) (by simp) ?_; intro gn cap w1 hown1 hgrow1 hat1 hlt1))
                go_roundw
                case rel =>
                  have h5 := OwnP.app (p := (z, (j : Int))) hbs hl g1 g2 g3 g4 hown1 hgrow1 hat1
                  exact ⟨k + 1, by omega, by go_num, ⟨q + 1, by omega, by rw [HY.out _ Hst.out Hrun.out]; exact h5⟩, below_app3 hB hbs g2 hgrow1⟩
                case measure => simp [intOf]; omega
              · go_wp2_with (go_at_call 47; refine (contains_eq _ _ _ _ _ _ _ hzk hn (by assumption)).mono ?_; rintro e w' ⟨rfl, rfl⟩)
                go_round
                case rel => exact ⟨j + 1, by omega, by omega, by go_num, runTill_succ hrt h2⟩
                case measure => simp [intOf]; omega
            · have t3 : ¬ (j : Int) < (s : Int) := by omega
              · have Hrun := Lib.hid (runLen_eq (s := s) (zs := zs) (f := z) (v := j) ⟨j1, j2, hrt, .inl (by omega)⟩)
                go_wp2_with (first | (go_at_call 47; refine (contains_eq _ _ _ _ _ _ _ hzk hn (by assumption)).mono ?_; rintro e w' ⟨rfl, rfl⟩) | (at_builtin; refine wpList_append_lies _ rfl _ _ 36 rfl (w.heap.size) 22 i0 (.slice none 0 0) 1 24 Try.underlying36 hi0 hz0 hz1 hz2 rfl (by decide) _ _ _ rfl ((g2.alloc _).alloc _) ⟨wr.heap.size + 1, 0, none⟩ 1 1 [.slice (some ⟨wr.heap.size, 0, none⟩) 2 2] rfl rfl (cell_one_new2 _ _ _ _ (by simp)) (by simp [Value.oneCell']) (by decide) (by unfold maxLen; omega) (by omega) (by simp; omega) (wr.heap.size + 1 + 1) (by simp) ?_; intro gn cap w1 hown1 hgrow1 hat1 hlt1))
                go_roundw
                case rel =>
                  have h5 := OwnP.app (p := (z, (j : Int))) hbs hl g1 g2 g3 g4 hown1 hgrow1 hat1
                  exact ⟨k + 1, by omega, by go_num, ⟨q + 1, by omega, by rw [HY.out _ Hst.out Hrun.out]; exact h5⟩, below_app3 hB hbs g2 hgrow1⟩
                case measure => simp [intOf]; omega
    · obtain rfl : k = n := by omega
      go_wp2
      go_ret
      rw [partsK_all HL.out] at hP
      obtain rfl : q = (partsL s zs).length := hP.len.symm
      exact ⟨_, _, _, rfl, hP, hB⟩
end Go.Proofs.Ytniifpfhfpcmcaa
