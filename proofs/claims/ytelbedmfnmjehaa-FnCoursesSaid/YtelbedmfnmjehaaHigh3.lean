/- HeightAt: the law. -/
import Derived.Test.YtelbedmfnmjehaaHigh2
namespace Go.Proofs.Ytelbedmfnmjehaa
open Go.RowKit
set_option linter.unusedVariables false
set_option linter.unusedSimpArgs false

theorem OwnR.keep {w w' : World} {base : Nat} {v : Value} {n : Nat} {cs : List R3} (h : OwnR w base v n cs) (hb : Below w.heap.size w w') : OwnR w' base v n cs :=
  h.kept (row := none) ⟨hb.os, hb.tape, hb.output, hb.size, fun k hk _ => hb.block k hk⟩ (by cases hv : v.ownBlock <;> simp)
theorem OwnR.lt {w : World} {base : Nat} {A : Option Addr} {n c : Nat} {cs : List R3} (h : OwnR w base (.slice A n c) n cs) : ∀ g, blk A = some g → base ≤ g ∧ g < w.heap.size := by
  obtain ⟨xs, h, _, _⟩ := h
  exact fun g hg => World.ownsRow.lt h g (by rw [blk_own]; exact hg)
theorem markCourseS_any (A : Option Addr) (n c : Nat) (cs : List R3) (q : Int) (base : Nat) (w : World) (h : OwnR w base (.slice A n c) n cs) (hn : n ≤ 1048576) (q0 : 0 ≤ q) (q1 : q ≤ 1000000000000) : Calls Try.prog 38 #[.slice A n c, .int .i64 q] w fun e w' =>
    e = .returned (.int .i64 (q + 3 * n)) ∧ w.grownBy w' (Value.slice A n c).ownBlock := by
  obtain ⟨xs, h, hl, hr⟩ := h
  clear hl hr
  rcases Nat.eq_zero_or_pos n with hn0 | hpos
  · subst hn0
    go_enter Try.func38, Try.ntmps38
    go_wp2
    refine wp_loop_rounds 1 ?_
    rw [rounds_succ]
    go_wp2
    go_ret
    exact ⟨ret_int (by simp), World.grownBy.refl w _⟩
  obtain ⟨g, rfl⟩ : ∃ g, A = some ⟨g, 0, none⟩ := by
    rcases h.2 with ⟨_, h2⟩ | ⟨g, cap, cur, hv, _⟩
    · omega
    · exact ⟨g, by simp at hv; exact hv.1⟩
  go_enter Try.func38, Try.ntmps38
  go_wp2
  go_loopw [1, 5] (fun p i wr => ∃ k : Nat, k ≤ n ∧ i = .int .i64 k ∧ p = .int .i64 (q + 3 * k) ∧ (∃ ys, wr.ownsRow base 26 3 (.slice (some ⟨g, 0, none⟩) n c) n ys) ∧ w.grownBy wr (some g)) (fun _ i _ => n - (intOf i).toNat)
  case atStart => exact ⟨0, Nat.zero_le _, rfl, by simp, ⟨_, h⟩, World.grownBy.refl w _⟩
  case round =>
    obtain ⟨k, hk, rfl, rfl, ⟨ys, hown⟩, hg⟩ := hrel
    by_cases hlt : k < n
    · obtain ⟨u0, hu0⟩ := ownR_full hown (j := k * 3) (by omega)
      obtain ⟨u1, hu1⟩ := ownR_full hown (j := k * 3 + 1) (by omega)
      obtain ⟨u2, hu2⟩ := ownR_full hown (j := k * 3 + 2) (by omega)
      have hf0 := World.ownsRow.frozenAt hown (k * 3)
      have hf1 := World.ownsRow.frozenAt hown (k * 3 + 1)
      have hf2 := World.ownsRow.frozenAt hown (k * 3 + 2)
      go_wp2
      go_roundw
      case rel =>
        obtain ⟨hs0, hg0⟩ := World.ownsRow.stored hown (k * 3) (.int .i64 (q + 3 * k))
        obtain ⟨hs1, hg1⟩ := World.ownsRow.stored hs0 (k * 3 + 1) (.int .i64 (q + 3 * k + 1))
        obtain ⟨hs2, hg2⟩ := World.ownsRow.stored hs1 (k * 3 + 2) (.int .i64 (q + 3 * k + 1 + 1))
        exact ⟨k + 1, by omega, by go_num, by go_num, ⟨_, hs2⟩, World.grownBy.trans' (World.grownBy.trans' (World.grownBy.trans' hg hg0) hg1) hg2⟩
      case measure => simp [intOf]; omega
    · obtain rfl : k = n := by omega
      go_wp2
      go_ret
      exact ⟨rfl, hg⟩
theorem highV_len {cs : List R3} {p : Int} : (highV cs p).1.length ≤ cs.length := by
  unfold highV
  split
  · split
    · simp [highL]
    · simp
  · simp
theorem law_FnExactHeightAt (w : World) (A : Option Addr) (n c : Nat) (cs : List R3) (h0 : IsRecs3 w A n cs) (p : Int) (_ : (Lit.int .i64 p).wf = true) : Calls Try.prog 11 #[.slice A n c, .int .i64 p] w fun e w' => e = .returned (.bool true) ∧ Below w.heap.size w w' := by
  have hm := h0.1
  unfold maxLen at hm
  have h := h0.2.1
  by_cases hbig : 1048576 < n
  · have h' : (1048576 : Int) < (n : Int) := by omega
    go_enter Try.func11, Try.ntmps11
    go_wp2_with (go_at_call 21; refine (szCourseS_big _ _ _ _ _ (by omega) (by omega) (by omega) (by omega)).mono ?_; rintro e w' ⟨rfl, rfl⟩)
    go_ret
    exact ⟨rfl, Below.refl _ _⟩
  have hn : n ≤ 1048576 := by omega
  have h' : ¬ (1048576 : Int) < (n : Int) := by omega
  have e1 : decide (cs = cs) = true := by simp
  have hL := highV_len (cs := cs) (p := p)
  rw [h.1] at hL
  have HL := Lib.hid hL
  clear hL hbig
  have hB := Below.refl w.heap.size w
  go_enter Try.func11, Try.ntmps11
  go_wp2_with (go_at_call 21; refine (szCourseS_small _ _ _ _ _ (by omega) (by omega)).mono ?_; rintro e w' ⟨rfl, rfl⟩)
  refine (toCourseS_any _ _ _ _ _ h hn).mono ?_
  rintro e w' ⟨rfl, ho1, hb⟩
  (have hz := hb.size; (try replace ha := OwnI.keep ha hb); (try replace hc := OwnI.keep hc hb); (try replace hx := OwnI.keep hx hb); (try replace hy := OwnI.keep hy hb); (try replace hs := OwnI.keep hs hb); (try replace hg := OwnI.keep hg hb); (try replace hd := OwnI.keep hd hb); replace hB := belowT hb hB; clear hb)
  go_wp2_with fail
  refine (specHeightAt_any _ _ _ _ _ _ ho1.recs hn (Nat.le_refl _)).mono ?_
  rintro e w' ⟨C, q, cq, rfl, hs, hb⟩
  have hq : q ≤ 1048576 := by rw [← OwnI.len hs]; exact Nat.le_trans HL.out hn
  have s1 := fun g hg => (OwnI.lt hs g hg).2
  clear ho1
  (have hz := hb.size; (try replace ha := OwnI.keep ha hb); (try replace hc := OwnI.keep hc hb); (try replace hx := OwnI.keep hx hb); (try replace hy := OwnI.keep hy hb); (try replace hs := OwnI.keep hs hb); (try replace hg := OwnI.keep hg hb); (try replace hd := OwnI.keep hd hb); replace hB := belowT hb hB; clear hb)
  go_wp2_with fail
  refine (toCourseS_any _ _ _ _ _ (h.keep hB) hn).mono ?_
  rintro e w' ⟨rfl, hr, hb⟩
  have hrl := hr.lt _ rfl
  (have hz := hb.size; (try replace ha := OwnI.keep ha hb); (try replace hc := OwnI.keep hc hb); (try replace hx := OwnI.keep hx hb); (try replace hy := OwnI.keep hy hb); (try replace hs := OwnI.keep hs hb); (try replace hg := OwnI.keep hg hb); (try replace hd := OwnI.keep hd hb); replace hB := belowT hb hB; clear hb)
  go_wp2_with fail
  refine (implHeightAt_any _ _ _ _ _ _ hr.recs hn).mono ?_
  rintro e w' ⟨D, r, t, rfl, hg, hb⟩
  obtain rfl : r = q := (OwnI.len hg).symm.trans (OwnI.len hs)
  have g1 := fun g h => (OwnI.lt hg g h).1
  (replace hr := hr.keep hb; (have hz := hb.size; (try replace ha := OwnI.keep ha hb); (try replace hc := OwnI.keep hc hb); (try replace hx := OwnI.keep hx hb); (try replace hy := OwnI.keep hy hb); (try replace hs := OwnI.keep hs hb); (try replace hg := OwnI.keep hg hb); (try replace hd := OwnI.keep hd hb); replace hB := belowT hb hB; clear hb))
  go_wp2_with fail
  refine (eqI_same _ _ _ _ _ _ _ (OwnI.ints hg) (OwnI.ints hs) hq).mono ?_
  rintro e w' ⟨rfl, hb⟩
  (replace hr := hr.keep hb; (have hz := hb.size; (try replace ha := OwnI.keep ha hb); (try replace hc := OwnI.keep hc hb); (try replace hx := OwnI.keep hx hb); (try replace hy := OwnI.keep hy hb); (try replace hs := OwnI.keep hs hb); (try replace hg := OwnI.keep hg hb); (try replace hd := OwnI.keep hd hb); replace hB := belowT hb hB; clear hb))
  go_wp2_with fail
  refine (toCourseS_any _ _ _ _ _ (h.keep hB) hn).mono ?_
  rintro e w' ⟨rfl, hy, hb⟩
  (replace hr := hr.keep hb; (have hz := hb.size; (try replace ha := OwnI.keep ha hb); (try replace hc := OwnI.keep hc hb); (try replace hx := OwnI.keep hx hb); (try replace hy := OwnI.keep hy hb); (try replace hs := OwnI.keep hs hb); (try replace hg := OwnI.keep hg hb); (try replace hd := OwnI.keep hd hb); replace hB := belowT hb hB; clear hb))
  go_wp2_with fail
  refine (eqCourseS_any _ _ _ _ _ _ _ _ _ hr.recs hy.recs hn hn).mono ?_
  rintro e w' ⟨rfl, hb⟩
  clear hy
  (replace hr := hr.keep hb; (have hz := hb.size; (try replace ha := OwnI.keep ha hb); (try replace hc := OwnI.keep hc hb); (try replace hx := OwnI.keep hx hb); (try replace hy := OwnI.keep hy hb); (try replace hs := OwnI.keep hs hb); (try replace hg := OwnI.keep hg hb); (try replace hd := OwnI.keep hd hb); replace hB := belowT hb hB; clear hb))
  go_wp2_with fail
  refine (markCourseS_any _ _ _ _ _ _ _ hr hn (by omega) (by omega)).mono ?_
  rintro e w' ⟨rfl, hgw⟩
  clear hr
  (have hz := hgw.size; (try replace hs := OwnI.grown hs hgw (by (intro b e1 e2; rw [blk_own] at e1; (try (have := s1 b e2)); (try (have := s1 b e1)); (try (have := g1 b e1)); (try (have := g1 b e2)); (try simp only [blk, Option.map_some, Option.some.injEq] at e1); (try simp only [blk, Option.map_some, Option.some.injEq] at e2); omega))); (try replace hg := OwnI.grown hg hgw (by (intro b e1 e2; rw [blk_own] at e1; (try (have := s1 b e2)); (try (have := s1 b e1)); (try (have := g1 b e1)); (try (have := g1 b e2)); (try simp only [blk, Option.map_some, Option.some.injEq] at e1); (try simp only [blk, Option.map_some, Option.some.injEq] at e2); omega))); (try replace hx := OwnI.grown hx hgw (by (intro b e1 e2; rw [blk_own] at e1; (try (have := s1 b e2)); (try (have := s1 b e1)); (try (have := g1 b e1)); (try (have := g1 b e2)); (try simp only [blk, Option.map_some, Option.some.injEq] at e1); (try simp only [blk, Option.map_some, Option.some.injEq] at e2); omega))); (try replace hy := OwnI.grown hy hgw (by (intro b e1 e2; rw [blk_own] at e1; (try (have := s1 b e2)); (try (have := s1 b e1)); (try (have := g1 b e1)); (try (have := g1 b e2)); (try simp only [blk, Option.map_some, Option.some.injEq] at e1); (try simp only [blk, Option.map_some, Option.some.injEq] at e2); omega))); replace hB := Below.grown hB hgw hB.size (by (intro b e1; rw [blk_own] at e1; (try (have := g1 b e1)); (try simp only [blk, Option.map_some, Option.some.injEq] at e1); omega)); clear hgw)
  (go_wp2_with fail; refine (eqI_same _ _ _ _ _ _ _ (OwnI.ints hg) (OwnI.ints hs) hq).mono ?_; rintro e w' ⟨rfl, hb⟩; (have hz := hb.size; (try replace ha := OwnI.keep ha hb); (try replace hc := OwnI.keep hc hb); (try replace hx := OwnI.keep hx hb); (try replace hy := OwnI.keep hy hb); (try replace hs := OwnI.keep hs hb); (try replace hg := OwnI.keep hg hb); (try replace hd := OwnI.keep hd hb); replace hB := belowT hb hB; clear hb))
  (go_wp2_with fail; refine (markInt64S_any _ _ _ _ _ _ _ hg hq (by omega) (by omega)).mono ?_; rintro e w' ⟨rfl, hg, hgw⟩; (have hz := hgw.size; (try replace hs := OwnI.grown hs hgw (by (intro b e1 e2; rw [blk_own] at e1; (try (have := s1 b e2)); (try (have := s1 b e1)); (try (have := g1 b e1)); (try (have := g1 b e2)); (try simp only [blk, Option.map_some, Option.some.injEq] at e1); (try simp only [blk, Option.map_some, Option.some.injEq] at e2); omega))); (try replace hg := OwnI.grown hg hgw (by (intro b e1 e2; rw [blk_own] at e1; (try (have := s1 b e2)); (try (have := s1 b e1)); (try (have := g1 b e1)); (try (have := g1 b e2)); (try simp only [blk, Option.map_some, Option.some.injEq] at e1); (try simp only [blk, Option.map_some, Option.some.injEq] at e2); omega))); (try replace hx := OwnI.grown hx hgw (by (intro b e1 e2; rw [blk_own] at e1; (try (have := s1 b e2)); (try (have := s1 b e1)); (try (have := g1 b e1)); (try (have := g1 b e2)); (try simp only [blk, Option.map_some, Option.some.injEq] at e1); (try simp only [blk, Option.map_some, Option.some.injEq] at e2); omega))); (try replace hy := OwnI.grown hy hgw (by (intro b e1 e2; rw [blk_own] at e1; (try (have := s1 b e2)); (try (have := s1 b e1)); (try (have := g1 b e1)); (try (have := g1 b e2)); (try simp only [blk, Option.map_some, Option.some.injEq] at e1); (try simp only [blk, Option.map_some, Option.some.injEq] at e2); omega))); replace hB := Below.grown hB hgw hB.size (by (intro b e1; rw [blk_own] at e1; (try (have := g1 b e1)); (try simp only [blk, Option.map_some, Option.some.injEq] at e1); omega)); clear hgw))
  (go_wp2_with fail; refine (heldInt64S_ramp _ _ _ _ _ (OwnI.ints hg) hq (by omega) (by omega)).mono ?_; rintro e w' ⟨rfl, rfl⟩)
  go_wp2_with fail
  refine (toCourseS_any _ _ _ _ _ (h.keep hB) hn).mono ?_
  rintro e w' ⟨rfl, hr, hb⟩
  (have hz := hb.size; (try replace ha := OwnI.keep ha hb); (try replace hc := OwnI.keep hc hb); (try replace hx := OwnI.keep hx hb); (try replace hy := OwnI.keep hy hb); (try replace hs := OwnI.keep hs hb); (try replace hg := OwnI.keep hg hb); (try replace hd := OwnI.keep hd hb); replace hB := belowT hb hB; clear hb)
  go_wp2_with fail
  refine (implHeightAt_any _ _ _ _ _ _ hr.recs hn).mono ?_
  rintro e w' ⟨D2, r2, t2, rfl, hd, hb⟩
  obtain rfl : r2 = r := (OwnI.len hd).symm.trans (OwnI.len hs)
  clear hr
  (have hz := hb.size; (try replace ha := OwnI.keep ha hb); (try replace hc := OwnI.keep hc hb); (try replace hx := OwnI.keep hx hb); (try replace hy := OwnI.keep hy hb); (try replace hs := OwnI.keep hs hb); (try replace hg := OwnI.keep hg hb); (try replace hd := OwnI.keep hd hb); replace hB := belowT hb hB; clear hb)
  (go_wp2_with fail; refine (eqI_same _ _ _ _ _ _ _ (OwnI.ints hd) (OwnI.ints hs) hq).mono ?_; rintro e w' ⟨rfl, hb⟩; (have hz := hb.size; (try replace ha := OwnI.keep ha hb); (try replace hc := OwnI.keep hc hb); (try replace hx := OwnI.keep hx hb); (try replace hy := OwnI.keep hy hb); (try replace hs := OwnI.keep hs hb); (try replace hg := OwnI.keep hg hb); (try replace hd := OwnI.keep hd hb); replace hB := belowT hb hB; clear hb))
  (go_wp2_with fail; refine (heldInt64S_ramp _ _ _ _ _ (OwnI.ints hg) hq (by omega) (by omega)).mono ?_; rintro e w' ⟨rfl, rfl⟩)
  go_wp2
  go_ret
  exact ⟨rfl, hB⟩
end Go.Proofs.Ytelbedmfnmjehaa
