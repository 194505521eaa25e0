/- The law FnExactPackLevel: for every input it returns true and leaves its arguments alone. No condition. -/
import Derived.Test.YtkkipkmjhakknaaPackI
namespace Go.Proofs.Ytkkipkmjhakknaa
open Go.RowKit
set_option linter.unusedVariables false
set_option linter.unusedSimpArgs false

theorem packV_len (ws ps : List Int) (z : Int) : (packV ws ps z).1.length ≤ 6 := by
  unfold packV
  cases ho : packOk ws ps z
  · simp
  · rw [if_pos rfl]
    have h6 : ws.length ≤ 6 := by
      unfold packOk at ho
      simp only [Bool.and_eq_true, decide_eq_true_iff] at ho
      exact ho.1.1.1.1
    split
    · simp
    · have ht := packF_told ws ps z ws.length [] ([], -1) (by simp) (Plc.nil _) (.inl ⟨rfl, rfl⟩)
      have e0 : momP ws ps z [] = 0 := by simp [momP]
      rw [e0] at ht
      rcases ht with ⟨e, _⟩ | ⟨_, e, _⟩
      · simp only [e]; simp
      · simp only [e]; exact h6
theorem law_FnExactPackLevel (w : World) (A : Option Addr) (n c : Nat) (ws : List Int) (h0 : IsInts .i64 w A n ws) (B : Option Addr) (m d : Nat) (ps : List Int) (g0 : IsInts .i64 w B m ps) (z : Int) (_ : (Lit.int .i64 z).wf = true) : Calls Try.prog 10 #[.slice A n c, .slice B m d, .int .i64 z] w fun e w' => e = .returned (.bool true) ∧ Below w.heap.size w w' := by
  have hm1 := h0.1
  have hm2 := g0.1
  unfold maxLen at hm1 hm2
  by_cases hbig : 1048576 < n
  · have h' : (1048576 : Int) < (n : Int) := by omega
    go_enter Try.func10, Try.ntmps10
    go_wp2
    go_ret
    exact ⟨rfl, Below.refl _ _⟩
  have hn : n ≤ 1048576 := by omega
  have h' : ¬ (1048576 : Int) < (n : Int) := by omega
  by_cases hbig2 : 1048576 < m
  · have h2' : (1048576 : Int) < (m : Int) := by omega
    go_enter Try.func10, Try.ntmps10
    go_wp2
    go_ret
    exact ⟨rfl, Below.refl _ _⟩
  have hm : m ≤ 1048576 := by omega
  have h2' : ¬ (1048576 : Int) < (m : Int) := by omega
  clear hbig hbig2
  have h := h0.ints
  have g := g0.ints
  have HL := Lib.hid (packV_len ws ps z)
  have hB := Below.refl w.heap.size w
  go_enter Try.func10, Try.ntmps10
  (go_wp2_with fail; refine (toInt64S_any _ _ _ _ _ (Ints.keep h hB) hn).mono ?_; rintro e w' ⟨rfl, ha, hb⟩; have hl := OwnI.lt ha _ rfl; (have hz := hb.size; (try replace ha := OwnI.keep ha hb); (try replace hc := OwnI.keep hc hb); (try replace hx := OwnI.keep hx hb); (try replace hy := OwnI.keep hy hb); (try replace hs := OwnI.keep hs hb); (try replace hg := OwnI.keep hg hb); (try replace hd := OwnI.keep hd hb); replace hB := belowT hb hB; clear hb))
  (go_wp2_with fail; refine (toInt64S_any _ _ _ _ _ (Ints.keep g hB) hm).mono ?_; rintro e w' ⟨rfl, hc, hb⟩; have hl := OwnI.lt hc _ rfl; (have hz := hb.size; (try replace ha := OwnI.keep ha hb); (try replace hc := OwnI.keep hc hb); (try replace hx := OwnI.keep hx hb); (try replace hy := OwnI.keep hy hb); (try replace hs := OwnI.keep hs hb); (try replace hg := OwnI.keep hg hb); (try replace hd := OwnI.keep hd hb); replace hB := belowT hb hB; clear hb))
  go_wp2_with fail
  refine (specPack_any _ _ _ _ _ _ _ _ _ _ (OwnI.ints ha) (OwnI.ints hc) hn hm).mono ?_
  rintro e w' ⟨C, q, p, rfl, hs, hb⟩
  have hq : q ≤ 1048576 := by rw [← OwnI.len hs]; exact Nat.le_trans HL.out (by omega)
  have s1 := fun g hg => (OwnI.lt hs g hg).2
  (have hz := hb.size; (try replace ha := OwnI.keep ha hb); (try replace hc := OwnI.keep hc hb); (try replace hx := OwnI.keep hx hb); (try replace hy := OwnI.keep hy hb); (try replace hs := OwnI.keep hs hb); (try replace hg := OwnI.keep hg hb); (try replace hd := OwnI.keep hd hb); replace hB := belowT hb hB; clear hb)
  clear ha hc
  (go_wp2_with fail; refine (toInt64S_any _ _ _ _ _ (Ints.keep h hB) hn).mono ?_; rintro e w' ⟨rfl, hx, hb⟩; have hl := OwnI.lt hx _ rfl; (have hz := hb.size; (try replace ha := OwnI.keep ha hb); (try replace hc := OwnI.keep hc hb); (try replace hx := OwnI.keep hx hb); (try replace hy := OwnI.keep hy hb); (try replace hs := OwnI.keep hs hb); (try replace hg := OwnI.keep hg hb); (try replace hd := OwnI.keep hd hb); replace hB := belowT hb hB; clear hb))
  (go_wp2_with fail; refine (toInt64S_any _ _ _ _ _ (Ints.keep g hB) hm).mono ?_; rintro e w' ⟨rfl, hy, hb⟩; have hl := OwnI.lt hy _ rfl; (have hz := hb.size; (try replace ha := OwnI.keep ha hb); (try replace hc := OwnI.keep hc hb); (try replace hx := OwnI.keep hx hb); (try replace hy := OwnI.keep hy hb); (try replace hs := OwnI.keep hs hb); (try replace hg := OwnI.keep hg hb); (try replace hd := OwnI.keep hd hb); replace hB := belowT hb hB; clear hb))
  go_wp2_with fail
  refine (implPack_any _ _ _ _ _ _ _ _ _ _ (OwnI.ints hx) (OwnI.ints hy) hn hm).mono ?_
  rintro e w' ⟨D, r, t, rfl, hg, hb⟩
  obtain rfl : r = q := (OwnI.len hg).symm.trans (OwnI.len hs)
  have g1 := fun g h => (OwnI.lt hg g h).1
  (have hz := hb.size; (try replace ha := OwnI.keep ha hb); (try replace hc := OwnI.keep hc hb); (try replace hx := OwnI.keep hx hb); (try replace hy := OwnI.keep hy hb); (try replace hs := OwnI.keep hs hb); (try replace hg := OwnI.keep hg hb); (try replace hd := OwnI.keep hd hb); replace hB := belowT hb hB; clear hb)
  (go_wp2_with fail; refine (eqI_same _ _ _ _ _ _ _ (OwnI.ints hg) (OwnI.ints hs) hq).mono ?_; rintro e w' ⟨rfl, hb⟩; (have hz := hb.size; (try replace ha := OwnI.keep ha hb); (try replace hc := OwnI.keep hc hb); (try replace hx := OwnI.keep hx hb); (try replace hy := OwnI.keep hy hb); (try replace hs := OwnI.keep hs hb); (try replace hg := OwnI.keep hg hb); (try replace hd := OwnI.keep hd hb); replace hB := belowT hb hB; clear hb))
  (go_wp2_with fail; refine (toInt64S_any _ _ _ _ _ (Ints.keep h hB) hn).mono ?_; rintro e w' ⟨rfl, hd, hb⟩; have hl := OwnI.lt hd _ rfl; (have hz := hb.size; (try replace ha := OwnI.keep ha hb); (try replace hc := OwnI.keep hc hb); (try replace hx := OwnI.keep hx hb); (try replace hy := OwnI.keep hy hb); (try replace hs := OwnI.keep hs hb); (try replace hg := OwnI.keep hg hb); (try replace hd := OwnI.keep hd hb); replace hB := belowT hb hB; clear hb))
  (go_wp2_with fail; refine (eqI_same _ _ _ _ _ _ _ (OwnI.ints hx) (OwnI.ints hd) hn).mono ?_; rintro e w' ⟨rfl, hb⟩; (have hz := hb.size; (try replace ha := OwnI.keep ha hb); (try replace hc := OwnI.keep hc hb); (try replace hx := OwnI.keep hx hb); (try replace hy := OwnI.keep hy hb); (try replace hs := OwnI.keep hs hb); (try replace hg := OwnI.keep hg hb); (try replace hd := OwnI.keep hd hb); replace hB := belowT hb hB; clear hb))
  clear hd
  (go_wp2_with fail; refine (toInt64S_any _ _ _ _ _ (Ints.keep g hB) hm).mono ?_; rintro e w' ⟨rfl, hd, hb⟩; have hl := OwnI.lt hd _ rfl; (have hz := hb.size; (try replace ha := OwnI.keep ha hb); (try replace hc := OwnI.keep hc hb); (try replace hx := OwnI.keep hx hb); (try replace hy := OwnI.keep hy hb); (try replace hs := OwnI.keep hs hb); (try replace hg := OwnI.keep hg hb); (try replace hd := OwnI.keep hd hb); replace hB := belowT hb hB; clear hb))
  (go_wp2_with fail; refine (eqI_same _ _ _ _ _ _ _ (OwnI.ints hy) (OwnI.ints hd) hm).mono ?_; rintro e w' ⟨rfl, hb⟩; (have hz := hb.size; (try replace ha := OwnI.keep ha hb); (try replace hc := OwnI.keep hc hb); (try replace hx := OwnI.keep hx hb); (try replace hy := OwnI.keep hy hb); (try replace hs := OwnI.keep hs hb); (try replace hg := OwnI.keep hg hb); (try replace hd := OwnI.keep hd hb); replace hB := belowT hb hB; clear hb))
  clear hd
  (go_wp2_with fail; refine (markInt64S_any _ _ _ _ _ _ _ hx hn (by omega) (by omega)).mono ?_; rintro e w' ⟨rfl, hx, hgw⟩; (have hz := hgw.size; (try replace hs := OwnI.grown hs hgw (by (intro b e1 e2; rw [blk_own] at e1; (try (have := s1 b e2)); (try (have := s1 b e1)); (try (have := g1 b e1)); (try (have := g1 b e2)); (try simp only [blk, Option.map_some, Option.some.injEq] at e1); (try simp only [blk, Option.map_some, Option.some.injEq] at e2); omega))); (try replace hg := OwnI.grown hg hgw (by (intro b e1 e2; rw [blk_own] at e1; (try (have := s1 b e2)); (try (have := s1 b e1)); (try (have := g1 b e1)); (try (have := g1 b e2)); (try simp only [blk, Option.map_some, Option.some.injEq] at e1); (try simp only [blk, Option.map_some, Option.some.injEq] at e2); omega))); (try replace hx := OwnI.grown hx hgw (by (intro b e1 e2; rw [blk_own] at e1; (try (have := s1 b e2)); (try (have := s1 b e1)); (try (have := g1 b e1)); (try (have := g1 b e2)); (try simp only [blk, Option.map_some, Option.some.injEq] at e1); (try simp only [blk, Option.map_some, Option.some.injEq] at e2); omega))); (try replace hy := OwnI.grown hy hgw (by (intro b e1 e2; rw [blk_own] at e1; (try (have := s1 b e2)); (try (have := s1 b e1)); (try (have := g1 b e1)); (try (have := g1 b e2)); (try simp only [blk, Option.map_some, Option.some.injEq] at e1); (try simp only [blk, Option.map_some, Option.some.injEq] at e2); omega))); replace hB := Below.grown hB hgw hB.size (by (intro b e1; rw [blk_own] at e1; (try (have := g1 b e1)); (try simp only [blk, Option.map_some, Option.some.injEq] at e1); omega)); clear hgw))
  (go_wp2_with fail; refine (markInt64S_any _ _ _ _ _ _ _ hy hm (by omega) (by omega)).mono ?_; rintro e w' ⟨rfl, hy, hgw⟩; (have hz := hgw.size; (try replace hs := OwnI.grown hs hgw (by (intro b e1 e2; rw [blk_own] at e1; (try (have := s1 b e2)); (try (have := s1 b e1)); (try (have := g1 b e1)); (try (have := g1 b e2)); (try simp only [blk, Option.map_some, Option.some.injEq] at e1); (try simp only [blk, Option.map_some, Option.some.injEq] at e2); omega))); (try replace hg := OwnI.grown hg hgw (by (intro b e1 e2; rw [blk_own] at e1; (try (have := s1 b e2)); (try (have := s1 b e1)); (try (have := g1 b e1)); (try (have := g1 b e2)); (try simp only [blk, Option.map_some, Option.some.injEq] at e1); (try simp only [blk, Option.map_some, Option.some.injEq] at e2); omega))); (try replace hx := OwnI.grown hx hgw (by (intro b e1 e2; rw [blk_own] at e1; (try (have := s1 b e2)); (try (have := s1 b e1)); (try (have := g1 b e1)); (try (have := g1 b e2)); (try simp only [blk, Option.map_some, Option.some.injEq] at e1); (try simp only [blk, Option.map_some, Option.some.injEq] at e2); omega))); (try replace hy := OwnI.grown hy hgw (by (intro b e1 e2; rw [blk_own] at e1; (try (have := s1 b e2)); (try (have := s1 b e1)); (try (have := g1 b e1)); (try (have := g1 b e2)); (try simp only [blk, Option.map_some, Option.some.injEq] at e1); (try simp only [blk, Option.map_some, Option.some.injEq] at e2); omega))); replace hB := Below.grown hB hgw hB.size (by (intro b e1; rw [blk_own] at e1; (try (have := g1 b e1)); (try simp only [blk, Option.map_some, Option.some.injEq] at e1); omega)); clear hgw))
  (go_wp2_with fail; refine (eqI_same _ _ _ _ _ _ _ (OwnI.ints hg) (OwnI.ints hs) hq).mono ?_; rintro e w' ⟨rfl, hb⟩; (have hz := hb.size; (try replace ha := OwnI.keep ha hb); (try replace hc := OwnI.keep hc hb); (try replace hx := OwnI.keep hx hb); (try replace hy := OwnI.keep hy hb); (try replace hs := OwnI.keep hs hb); (try replace hg := OwnI.keep hg hb); (try replace hd := OwnI.keep hd hb); replace hB := belowT hb hB; clear hb))
  clear hx hy
  (go_wp2_with fail; refine (markInt64S_any _ _ _ _ _ _ _ hg hq (by omega) (by omega)).mono ?_; rintro e w' ⟨rfl, hg, hgw⟩; (have hz := hgw.size; (try replace hs := OwnI.grown hs hgw (by (intro b e1 e2; rw [blk_own] at e1; (try (have := s1 b e2)); (try (have := s1 b e1)); (try (have := g1 b e1)); (try (have := g1 b e2)); (try simp only [blk, Option.map_some, Option.some.injEq] at e1); (try simp only [blk, Option.map_some, Option.some.injEq] at e2); omega))); (try replace hg := OwnI.grown hg hgw (by (intro b e1 e2; rw [blk_own] at e1; (try (have := s1 b e2)); (try (have := s1 b e1)); (try (have := g1 b e1)); (try (have := g1 b e2)); (try simp only [blk, Option.map_some, Option.some.injEq] at e1); (try simp only [blk, Option.map_some, Option.some.injEq] at e2); omega))); (try replace hx := OwnI.grown hx hgw (by (intro b e1 e2; rw [blk_own] at e1; (try (have := s1 b e2)); (try (have := s1 b e1)); (try (have := g1 b e1)); (try (have := g1 b e2)); (try simp only [blk, Option.map_some, Option.some.injEq] at e1); (try simp only [blk, Option.map_some, Option.some.injEq] at e2); omega))); (try replace hy := OwnI.grown hy hgw (by (intro b e1 e2; rw [blk_own] at e1; (try (have := s1 b e2)); (try (have := s1 b e1)); (try (have := g1 b e1)); (try (have := g1 b e2)); (try simp only [blk, Option.map_some, Option.some.injEq] at e1); (try simp only [blk, Option.map_some, Option.some.injEq] at e2); omega))); replace hB := Below.grown hB hgw hB.size (by (intro b e1; rw [blk_own] at e1; (try (have := g1 b e1)); (try simp only [blk, Option.map_some, Option.some.injEq] at e1); omega)); clear hgw))
  (go_wp2_with fail; refine (heldInt64S_ramp _ _ _ _ _ (OwnI.ints hg) hq (by omega) (by omega)).mono ?_; rintro e w' ⟨rfl, rfl⟩)
  (go_wp2_with fail; refine (toInt64S_any _ _ _ _ _ (Ints.keep h hB) hn).mono ?_; rintro e w' ⟨rfl, hx, hb⟩; have hl := OwnI.lt hx _ rfl; (have hz := hb.size; (try replace ha := OwnI.keep ha hb); (try replace hc := OwnI.keep hc hb); (try replace hx := OwnI.keep hx hb); (try replace hy := OwnI.keep hy hb); (try replace hs := OwnI.keep hs hb); (try replace hg := OwnI.keep hg hb); (try replace hd := OwnI.keep hd hb); replace hB := belowT hb hB; clear hb))
  (go_wp2_with fail; refine (toInt64S_any _ _ _ _ _ (Ints.keep g hB) hm).mono ?_; rintro e w' ⟨rfl, hy, hb⟩; have hl := OwnI.lt hy _ rfl; (have hz := hb.size; (try replace ha := OwnI.keep ha hb); (try replace hc := OwnI.keep hc hb); (try replace hx := OwnI.keep hx hb); (try replace hy := OwnI.keep hy hb); (try replace hs := OwnI.keep hs hb); (try replace hg := OwnI.keep hg hb); (try replace hd := OwnI.keep hd hb); replace hB := belowT hb hB; clear hb))
  go_wp2_with fail
  refine (implPack_any _ _ _ _ _ _ _ _ _ _ (OwnI.ints hx) (OwnI.ints hy) hn hm).mono ?_
  rintro e w' ⟨D2, r2, t2, rfl, hd, hb⟩
  obtain rfl : r2 = r := (OwnI.len hd).symm.trans (OwnI.len hs)
  (have hz := hb.size; (try replace ha := OwnI.keep ha hb); (try replace hc := OwnI.keep hc hb); (try replace hx := OwnI.keep hx hb); (try replace hy := OwnI.keep hy hb); (try replace hs := OwnI.keep hs hb); (try replace hg := OwnI.keep hg hb); (try replace hd := OwnI.keep hd hb); replace hB := belowT hb hB; clear hb)
  (go_wp2_with fail; refine (eqI_same _ _ _ _ _ _ _ (OwnI.ints hd) (OwnI.ints hs) hq).mono ?_; rintro e w' ⟨rfl, hb⟩; (have hz := hb.size; (try replace ha := OwnI.keep ha hb); (try replace hc := OwnI.keep hc hb); (try replace hx := OwnI.keep hx hb); (try replace hy := OwnI.keep hy hb); (try replace hs := OwnI.keep hs hb); (try replace hg := OwnI.keep hg hb); (try replace hd := OwnI.keep hd hb); replace hB := belowT hb hB; clear hb))
  (go_wp2_with fail; refine (heldInt64S_ramp _ _ _ _ _ (OwnI.ints hg) hq (by omega) (by omega)).mono ?_; rintro e w' ⟨rfl, rfl⟩)
  go_wp2
  go_ret
  exact ⟨rfl, hB⟩
end Go.Proofs.Ytkkipkmjhakknaa
