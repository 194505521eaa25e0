/- WithoutGood: the law. -/
import Derived.Test.YtkkipkmjhakknaaWitho3
namespace Go.Proofs.Ytkkipkmjhakknaa
open Go.RowKit
set_option linter.unusedVariables false
set_option linter.unusedSimpArgs false

theorem OwnR.keep {w w' : World} {base : Nat} {v : Value} {n : Nat} {cs : List R2} (h : OwnR w base v n cs) (hb : Below w.heap.size w w') : OwnR w' base v n cs := by
  refine OwnR.kept (row := none) h ⟨hb.os, hb.tape, hb.output, hb.size, fun k hk _ => hb.block k hk⟩ ?_
  cases hv : v.ownBlock <;> simp
theorem eqG_same (A B : Option Addr) (n c d : Nat) (cs : List R2) (w : World) (h : Recs w A n cs) (g : Recs w B n cs) (hn : n ≤ 1048576) : Calls Try.prog 30 #[.slice A n c, .slice B n d] w fun e w' =>
    e = .returned (.bool true) ∧ Below w.heap.size w w' :=
  (eqGoodS_any _ _ _ _ _ _ _ _ _ h g hn hn).mono fun _ _ ⟨e, hb⟩ => ⟨by rw [e]; simp, hb⟩
/-- (k, k + 1), (k + 2, k + 3), .. : n records. -/
def rampG (k : Int) (n : Nat) : List R2 := (List.range n).map fun j : Nat => (k + 2 * (j : Int), k + 2 * (j : Int) + 1)
theorem rampG_len (k : Int) (n : Nat) : (rampG k n).length = n := by simp [rampG]
theorem rampG_at {k : Int} {n j : Nat} (h : j < n) : (rampG k n)[j]? = some (k + 2 * (j : Int), k + 2 * (j : Int) + 1) := by simp [rampG, h]
theorem mark_stepR (L R : List R2) (k : Nat) (u : R2) (hl : L.length = R.length) (hk : k < R.length) (hu : R[k]? = some u) : (R.take k ++ L.drop k).set k u = R.take (k + 1) ++ L.drop (k + 1) := by
  apply List.ext_getElem?
  intro j
  rw [List.getElem?_set]
  by_cases h : k = j
  · subst h
    rw [if_pos rfl, if_pos (by simp; omega), List.getElem?_append_left (by simp; omega), List.getElem?_take, if_pos (by omega), hu]
  · rw [if_neg h]
    by_cases hj : j < k
    · rw [List.getElem?_append_left (by simp; omega), List.getElem?_append_left (by simp; omega), List.getElem?_take, List.getElem?_take, if_pos hj, if_pos (by omega)]
    · rw [List.getElem?_append_right (by simp; omega), List.getElem?_append_right (by simp; omega)]
      simp only [List.length_take, List.getElem?_drop]
      congr 1
      omega
theorem flatR_set : ∀ (cs : List R2) (k : Nat) (x : R2), ((flatR cs).set (k * 2) (.int .i64 x.1)).set (k * 2 + 1) (.int .i64 x.2) = flatR (cs.set k x)
  | [], k, x => by simp [flatR]
  | y :: cs, 0, x => rfl
  | y :: cs, k + 1, x => by
    rw [show (k + 1) * 2 = k * 2 + 1 + 1 by omega, List.set_cons_succ]
    show _ = .int .i64 y.1 :: .int .i64 y.2 :: flatR (cs.set k x)
    rw [← flatR_set cs k x]
    rfl
set_option maxHeartbeats 1000000 in
theorem markGoodS_any (A : Option Addr) (n c : Nat) (cs : List R2) (q : Int) (base : Nat) (w : World) (h : OwnR w base (.slice A n c) n cs) (hn : n ≤ 1048576) (q0 : 0 ≤ q) (q1 : q ≤ 1000000000000) : Calls Try.prog 35 #[.slice A n c, .int .i64 q] w fun e w' =>
    e = .returned (.int .i64 (q + 2 * n)) ∧ OwnR w' base (.slice A n c) n (rampG q n) ∧ w.grownBy w' (Value.slice A n c).ownBlock := by
  have hlen : cs.length = n := h.recs.1
  rcases Nat.eq_zero_or_pos n with hn0 | hpos
  · subst hn0
    have hz : cs = [] := List.eq_nil_of_length_eq_zero hlen
    subst hz
    go_enter Try.func35, Try.ntmps35
    go_wp2
    refine wp_loop_rounds 1 ?_
    rw [rounds_succ]
    go_wp2
    go_ret
    exact ⟨ret_int (by simp), h, World.grownBy.refl w _⟩
  obtain ⟨g, rfl⟩ : ∃ g, A = some ⟨g, 0, none⟩ := by
    rcases h.own.2 with ⟨_, h2⟩ | ⟨g, cap, cur, hv, _⟩
    · omega
    · exact ⟨g, by simp at hv; exact hv.1⟩
  have HL := Lib.hid hlen
  clear hlen
  go_enter Try.func35, Try.ntmps35
  go_wp2
  go_loopw [1, 5] (fun p i wr => ∃ k : Nat, k ≤ n ∧ i = .int .i64 k ∧ p = .int .i64 (q + 2 * k) ∧ wr.ownsRow base 37 2 (.slice (some ⟨g, 0, none⟩) n c) n (flatR ((rampG q n).take k ++ cs.drop k)) ∧ w.grownBy wr (some g)) (fun _ i _ => n - (intOf i).toNat)
  case atStart => exact ⟨0, Nat.zero_le _, rfl, by simp, by simpa using h.own, World.grownBy.refl w _⟩
  case round =>
    obtain ⟨k, hk, rfl, rfl, hown, hg⟩ := hrel
    by_cases hlt : k < n
    · obtain ⟨u3, hu3⟩ := ownR_full hown (j := k * 2) (by omega)
      obtain ⟨u4, hu4⟩ := ownR_full hown (j := k * 2 + 1) (by omega)
      have hf0 := World.ownsRow.frozenAt hown (k * 2)
      have hf1 := World.ownsRow.frozenAt hown (k * 2 + 1)
      have k0 : (0 : Int) ≤ (k : Int) := by omega
      have k1 : (k : Int) < (n : Int) := by omega
      go_wp2
      go_roundw
      case rel =>
        obtain ⟨hs, hg2⟩ := World.ownsRow.stored hown (k * 2) (.int .i64 (q + 2 * (k : Int)))
        obtain ⟨hs', hg3⟩ := World.ownsRow.stored hs (k * 2 + 1) (.int .i64 (q + 2 * (k : Int) + 1))
        have e1 := flatR_set ((rampG q n).take k ++ cs.drop k) k (q + 2 * (k : Int), q + 2 * (k : Int) + 1)
        rw [mark_stepR _ _ _ _ (by rw [rampG_len, HL.out]) (by rw [rampG_len]; exact hlt) (rampG_at hlt)] at e1
        simp only at e1
        rw [e1] at hs'
        exact ⟨k + 1, by omega, by go_num, by go_num, hs', World.grownBy.trans' (World.grownBy.trans' hg hg2) hg3⟩
      case measure => simp [intOf]; omega
    · obtain rfl : k = n := by omega
      go_wp2
      go_ret
      have e1 : (rampG q k).take k ++ cs.drop k = rampG q k := by
        rw [List.take_of_length_le (by rw [rampG_len]; omega), List.drop_eq_nil_of_le (by rw [HL.out]; omega), List.append_nil]
      rw [e1] at hown
      exact ⟨rfl, ownR_of hown, hg⟩
theorem heldGoodS_ramp (A : Option Addr) (n c : Nat) (q : Int) (w : World) (h : Recs w A n (rampG q n)) (hn : n ≤ 1048576) (q0 : 0 ≤ q) (q1 : q ≤ 1000000000000) : Calls Try.prog 36 #[.slice A n c, .int .i64 q] w fun e w' =>
    e = .returned (.int .i64 (q + 2 * n)) ∧ w = w' := by
  go_enter Try.func36, Try.ntmps36
  go_wp2
  go_loop [1, 5] (fun p i => ∃ k : Nat, k ≤ n ∧ i = .int .i64 k ∧ p = .int .i64 (q + 2 * k)) (fun _ i => n - (intOf i).toNat)
  case atStart => exact ⟨0, Nat.zero_le _, rfl, by simp⟩
  case round =>
    obtain ⟨k, hk, rfl, rfl⟩ := hrel
    by_cases hlt : k < n
    · obtain ⟨b, off, x, rfl, hblt, hx, hc0, hc1⟩ := h.at_ hlt
      rw [rampG_at hlt] at hx
      injection hx with hx
      subst hx
      simp only at hc0 hc1
      have ht : (q + 2 * (k : Int) != q + 2 * (k : Int)) = false := by simp
      have ht2 : (q + 2 * (k : Int) + 1 != q + 2 * (k : Int) + 1) = false := by simp
      go_wp2
      go_round
      case rel => exact ⟨k + 1, by omega, by go_num, by go_num⟩
      case measure => simp [intOf]; omega
    · obtain rfl : k = n := by omega
      go_wp2
      go_ret
      exact ⟨rfl, rfl⟩
set_option maxHeartbeats 4000000 in
theorem law_FnExactWithoutGood (w : World) (A : Option Addr) (n c : Nat) (cs : List R2) (h0 : IsRecs2 w A n cs) (k : Int) (_ : (Lit.int .i64 k).wf = true) : Calls Try.prog 7 #[.slice A n c, .int .i64 k] w fun e w' => e = .returned (.bool true) ∧ Below w.heap.size w w' := by
  have hm := h0.1
  unfold maxLen at hm
  have h := h0.2.1
  by_cases hbig : 1048576 < n
  · have h' : (1048576 : Int) < (n : Int) := by omega
    go_enter Try.func7, Try.ntmps7
    go_wp2_with (go_at_call 26; refine (szGoodS_big _ _ _ _ _ (by omega) (by omega) (by omega) (by omega)).mono ?_; rintro e w' ⟨rfl, rfl⟩)
    go_ret
    exact ⟨rfl, Below.refl _ _⟩
  have hn : n ≤ 1048576 := by omega
  have h' : ¬ (1048576 : Int) < (n : Int) := by omega
  have hW := withV_len cs k
  rw [h.1] at hW
  have HW := Lib.hid hW
  clear hW hbig
  obtain ⟨code, hcode⟩ : ∃ v, (withV cs k).2 = v := ⟨_, rfl⟩
  obtain ⟨rs, hrs⟩ : ∃ v, (withV cs k).1 = v := ⟨_, rfl⟩
  have HV := Lib.hid (show withV cs k = (rs, code) by rw [← hcode, ← hrs])
  rw [hrs] at HW
  clear hcode hrs
  have qc : (code != code) = false := by simp
  go_enter Try.func7, Try.ntmps7
  go_wp2_with (go_at_call 26; refine (szGoodS_small _ _ _ _ _ (by omega) (by omega)).mono ?_; rintro e w' ⟨rfl, rfl⟩)
  refine (toGoodS_any _ _ _ _ _ h hn).mono ?_
  rintro e w1 ⟨rfl, ho1, hB⟩
  have hz0 := hB.size
  go_wp2_with fail
  refine (specWithout_any _ _ _ _ _ _ ho1.recs hn (Nat.le_refl _) (by omega)).mono ?_
  rw [HV.out]
  rintro e w2 ⟨C, q, p, rfl, hs, hb⟩
  clear ho1
  have s1 := fun g hg => (OwnR.lt hs g hg).2
  have hq : q ≤ 1048576 := by have := hs.recs.1; have := HW.out; simp only at *; omega
  have hz := hb.size
  replace hB := belowT hb hB
  clear hb
  (go_wp2_with fail; refine (toGoodS_any _ _ _ _ _ (Recs.keep h hB) hn).mono ?_; rintro e w' ⟨rfl, hx, hb⟩)
  have x1 := (hx.lt _ rfl).2
  replace hs := hs.keep hb
  replace hB := belowT hb hB
  clear hb
  go_wp2_with fail
  refine (implWithout_any _ _ _ _ _ _ hx.recs hn).mono ?_
  rw [HV.out]
  rintro e w4 ⟨D, r, t, rfl, hg, hb⟩
  obtain rfl : r = q := hg.recs.1.symm.trans hs.recs.1
  have g1 := fun g h => (OwnR.lt hg g h).1
  have g2 := fun g h => (OwnR.lt hg g h).2
  have hzz := hb.size
  replace hx := hx.keep hb
  replace hs := hs.keep hb
  replace hB := belowT hb hB
  clear hb
  simp only at hg hs
  (go_wp2_with fail; refine (eqG_same _ _ _ _ _ _ _ (OwnR.recs hg) (OwnR.recs hs) hq).mono ?_; rintro e w' ⟨rfl, hb⟩; (have hz := hb.size; (try replace hx := OwnR.keep hx hb); (try replace hs := OwnR.keep hs hb); (try replace hg := OwnR.keep hg hb); (try replace hd := OwnR.keep hd hb); replace hB := belowT hb hB; clear hb))
  (go_wp2_with fail; refine (toGoodS_any _ _ _ _ _ (Recs.keep h hB) hn).mono ?_; rintro e w' ⟨rfl, hd, hb⟩)
  (have hz := hb.size; (try replace hx := OwnR.keep hx hb); (try replace hs := OwnR.keep hs hb); (try replace hg := OwnR.keep hg hb); (try replace hd := OwnR.keep hd hb); replace hB := belowT hb hB; clear hb)
  (go_wp2_with fail; refine (eqG_same _ _ _ _ _ _ _ (OwnR.recs hx) (OwnR.recs hd) hn).mono ?_; rintro e w' ⟨rfl, hb⟩; (have hz := hb.size; (try replace hx := OwnR.keep hx hb); (try replace hs := OwnR.keep hs hb); (try replace hg := OwnR.keep hg hb); (try replace hd := OwnR.keep hd hb); replace hB := belowT hb hB; clear hb))
  clear hd
  go_wp2_with fail
  refine (markGoodS_any _ _ _ _ _ _ _ hx hn (by omega) (by omega)).mono ?_
  rintro e w' ⟨rfl, hx, hgw⟩
  replace hgw := hgw
  rw [blk_own] at hgw
  have hzw := hgw.size
  replace hs := OwnR.kept hs hgw (by right; rw [blk_own]; intro e; have := s1 w2.heap.size e; omega)
  replace hg := OwnR.kept hg hgw (by right; rw [blk_own]; intro e; have := g1 w2.heap.size e; omega)
  replace hB := Below.grown hB hgw hB.size (fun j e => by simp only [blk, Option.map_some, Option.some.injEq] at e; omega)
  clear hgw hx
  (go_wp2_with fail; refine (eqG_same _ _ _ _ _ _ _ (OwnR.recs hg) (OwnR.recs hs) hq).mono ?_; rintro e w' ⟨rfl, hb⟩; (have hz := hb.size; (try replace hx := OwnR.keep hx hb); (try replace hs := OwnR.keep hs hb); (try replace hg := OwnR.keep hg hb); (try replace hd := OwnR.keep hd hb); replace hB := belowT hb hB; clear hb))
  go_wp2_with fail
  refine (markGoodS_any _ _ _ _ _ _ _ hg hq (by omega) (by omega)).mono ?_
  rintro e w' ⟨rfl, hg, hgw⟩
  rw [blk_own] at hgw
  have hzw2 := hgw.size
  replace hs := OwnR.kept hs hgw (by
    cases hC : blk C with
    | none => left; rw [blk_own]; exact hC
    | some b => right; rw [blk_own, hC]; intro e; have := s1 _ hC; have := g1 _ e.symm; omega)
  replace hB := Below.grown hB hgw hB.size (fun j e => by have := g1 _ e; omega)
  clear hgw
  go_wp2_with fail
  refine (heldGoodS_ramp _ _ _ _ _ hg.recs hq (by omega) (by omega)).mono ?_
  rintro e w' ⟨rfl, rfl⟩
  (go_wp2_with fail; refine (toGoodS_any _ _ _ _ _ (Recs.keep h hB) hn).mono ?_; rintro e w' ⟨rfl, hx, hb⟩)
  have hb5 := hb
  replace hs := hs.keep hb
  replace hg := hg.keep hb
  replace hB := belowT hb hB
  clear hb hb5
  go_wp2_with fail
  refine (implWithout_any _ _ _ _ _ _ hx.recs hn).mono ?_
  rw [HV.out]
  rintro e w5 ⟨D2, r2, t2, rfl, hd, hb⟩
  obtain rfl : r2 = r := hd.recs.1.symm.trans hs.recs.1
  simp only at hd
  replace hs := hs.keep hb
  replace hg := hg.keep hb
  replace hB := belowT hb hB
  clear hb hx
  (go_wp2_with fail; refine (eqG_same _ _ _ _ _ _ _ (OwnR.recs hd) (OwnR.recs hs) hq).mono ?_; rintro e w' ⟨rfl, hb⟩; (have hz := hb.size; (try replace hx := OwnR.keep hx hb); (try replace hs := OwnR.keep hs hb); (try replace hg := OwnR.keep hg hb); (try replace hd := OwnR.keep hd hb); replace hB := belowT hb hB; clear hb))
  go_wp2_with fail
  refine (heldGoodS_ramp _ _ _ _ _ hg.recs hq (by omega) (by omega)).mono ?_
  rintro e w' ⟨rfl, rfl⟩
  go_wp2
  go_ret
  exact ⟨rfl, hB⟩
end Go.Proofs.Ytkkipkmjhakknaa
