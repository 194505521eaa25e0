/- StripesWith: the law. -/
import Derived.Test.YtipelbhikomkiaaStr
namespace Go.Proofs.Ytipelbhikomkiaa
open Go.RowKit
set_option linter.unusedVariables false
set_option linter.unusedSimpArgs false

theorem strV_len (s : ByteArray) (n : Int) : (strV s n).1.length ≤ 58 := by
  by_cases hq : wCode s n = 0
  · obtain ⟨g1, g2⟩ := wCode_good hq
    obtain ⟨n0, n1⟩ := (inB_iff _ _ _).1 g2
    have := strL_len s (n - 2).toNat
    simp only [strV, hq, if_true]
    omega
  · simp [strV, hq]
theorem law_FnExactStripesWith (s : ByteArray) (hs0 : s.size ≤ maxLen) (n : Int) (_ : (Lit.int .i64 n).wf = true) (w : World) : Calls Try.prog 9 #[.string s, .int .i64 n] w fun e w' => e = .returned (.bool true) ∧ Below w.heap.size w w' := by
  by_cases h : 1048576 < s.size
  · have h' : (1048576 : Int) < (s.size : Int) := by omega
    go_enter Try.func9, Try.ntmps9
    go_wp2
    go_ret
    exact ⟨rfl, Below.refl _ _⟩
  have h' : ¬ (1048576 : Int) < (s.size : Int) := by omega
  clear h
  have HL := Lib.hid (strV_len s n)
  have hB := Below.refl w.heap.size w
  go_enter Try.func9, Try.ntmps9
  go_wp2_with fail
  refine (specStr_any _ _ _ hs0).mono ?_
  rintro e w' ⟨C, q, p, rfl, hs, hb⟩
  have hq' : q ≤ 60 := by have := OwnI.len hs; have := HL.out; omega
  have hq : q ≤ 1048576 := by omega
  have s1 := fun g hg => (OwnI.lt hs g hg).2
  (have hz := hb.size; (try replace ha := OwnI.keep ha hb); (try replace hc := OwnI.keep hc hb); (try replace hx := OwnI.keep hx hb); (try replace hy := OwnI.keep hy hb); (try replace hs := OwnI.keep hs hb); (try replace hg := OwnI.keep hg hb); (try replace hd := OwnI.keep hd hb); replace hB := belowT hb hB; clear hb)
  go_wp2_with fail
  refine (implStr_any _ _ _ hs0).mono ?_
  rintro e w' ⟨D, r, t, rfl, hg, hb⟩
  obtain rfl : r = q := (OwnI.len hg).symm.trans (OwnI.len hs)
  have g1 := fun g h => (OwnI.lt hg g h).1
  (have hz := hb.size; (try replace ha := OwnI.keep ha hb); (try replace hc := OwnI.keep hc hb); (try replace hx := OwnI.keep hx hb); (try replace hy := OwnI.keep hy hb); (try replace hs := OwnI.keep hs hb); (try replace hg := OwnI.keep hg hb); (try replace hd := OwnI.keep hd hb); replace hB := belowT hb hB; clear hb)
  (go_wp2_with fail; refine (eqI_same _ _ _ _ _ _ _ (OwnI.ints hg) (OwnI.ints hs) hq).mono ?_; rintro e w' ⟨rfl, hb⟩; (have hz := hb.size; (try replace ha := OwnI.keep ha hb); (try replace hc := OwnI.keep hc hb); (try replace hx := OwnI.keep hx hb); (try replace hy := OwnI.keep hy hb); (try replace hs := OwnI.keep hs hb); (try replace hg := OwnI.keep hg hb); (try replace hd := OwnI.keep hd hb); replace hB := belowT hb hB; clear hb))
  (go_wp2_with fail; refine (markInt64S_any _ _ _ _ _ _ _ hg hq (by omega) (by omega)).mono ?_; rintro e w' ⟨rfl, hg, hgw⟩; (have hz := hgw.size; (try replace hs := OwnI.grown hs hgw (by (intro b e1 e2; rw [blk_own] at e1; (try (have := s1 b e2)); (try (have := s1 b e1)); (try (have := g1 b e1)); (try (have := g1 b e2)); (try simp only [blk, Option.map_some, Option.some.injEq] at e1); (try simp only [blk, Option.map_some, Option.some.injEq] at e2); omega))); (try replace hg := OwnI.grown hg hgw (by (intro b e1 e2; rw [blk_own] at e1; (try (have := s1 b e2)); (try (have := s1 b e1)); (try (have := g1 b e1)); (try (have := g1 b e2)); (try simp only [blk, Option.map_some, Option.some.injEq] at e1); (try simp only [blk, Option.map_some, Option.some.injEq] at e2); omega))); (try replace hx := OwnI.grown hx hgw (by (intro b e1 e2; rw [blk_own] at e1; (try (have := s1 b e2)); (try (have := s1 b e1)); (try (have := g1 b e1)); (try (have := g1 b e2)); (try simp only [blk, Option.map_some, Option.some.injEq] at e1); (try simp only [blk, Option.map_some, Option.some.injEq] at e2); omega))); (try replace hy := OwnI.grown hy hgw (by (intro b e1 e2; rw [blk_own] at e1; (try (have := s1 b e2)); (try (have := s1 b e1)); (try (have := g1 b e1)); (try (have := g1 b e2)); (try simp only [blk, Option.map_some, Option.some.injEq] at e1); (try simp only [blk, Option.map_some, Option.some.injEq] at e2); omega))); replace hB := Below.grown hB hgw hB.size (by (intro b e1; rw [blk_own] at e1; (try (have := g1 b e1)); (try simp only [blk, Option.map_some, Option.some.injEq] at e1); omega)); clear hgw))
  (go_wp2_with fail; refine (heldInt64S_ramp _ _ _ _ _ (OwnI.ints hg) hq (by omega) (by omega)).mono ?_; rintro e w' ⟨rfl, rfl⟩)
  go_wp2_with fail
  refine (implStr_any _ _ _ hs0).mono ?_
  rintro e w' ⟨D2, r2, t2, rfl, hd, hb⟩
  obtain rfl : r2 = r := (OwnI.len hd).symm.trans (OwnI.len hs)
  (have hz := hb.size; (try replace ha := OwnI.keep ha hb); (try replace hc := OwnI.keep hc hb); (try replace hx := OwnI.keep hx hb); (try replace hy := OwnI.keep hy hb); (try replace hs := OwnI.keep hs hb); (try replace hg := OwnI.keep hg hb); (try replace hd := OwnI.keep hd hb); replace hB := belowT hb hB; clear hb)
  (go_wp2_with fail; refine (eqI_same _ _ _ _ _ _ _ (OwnI.ints hd) (OwnI.ints hs) hq).mono ?_; rintro e w' ⟨rfl, hb⟩; (have hz := hb.size; (try replace ha := OwnI.keep ha hb); (try replace hc := OwnI.keep hc hb); (try replace hx := OwnI.keep hx hb); (try replace hy := OwnI.keep hy hb); (try replace hs := OwnI.keep hs hb); (try replace hg := OwnI.keep hg hb); (try replace hd := OwnI.keep hd hb); replace hB := belowT hb hB; clear hb))
  (go_wp2_with fail; refine (heldInt64S_ramp _ _ _ _ _ (OwnI.ints hg) hq (by omega) (by omega)).mono ?_; rintro e w' ⟨rfl, rfl⟩)
  go_wp2
  go_ret
  exact ⟨rfl, hB⟩
end Go.Proofs.Ytipelbhikomkiaa
