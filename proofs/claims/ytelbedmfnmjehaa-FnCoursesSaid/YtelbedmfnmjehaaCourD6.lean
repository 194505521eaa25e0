/- DrawSameCourses. -/
import Derived.Test.YtelbedmfnmjehaaCourD5
import Derived.Laws.AppendOwnNone
namespace Go.Proofs.Ytelbedmfnmjehaa
open Go.RowKit
set_option linter.unusedVariables false
set_option linter.unusedSimpArgs false

theorem ownR_or {w : World} {base n c : Nat} {C : Option Addr} {cs : List R3} (h : OwnR w base (.slice C n c) n cs) : (C = none ∧ n = 0 ∧ c = 0) ∨ ∃ g, C = some ⟨g, 0, none⟩ := by
  obtain ⟨xs, h3, _, _⟩ := h
  rcases h3.2 with ⟨hv, h2⟩ | ⟨g, cap, cur, hv, _⟩
  · simp at hv; exact .inl ⟨hv.1, h2, hv.2.2⟩
  · exact .inr ⟨g, by simp at hv; exact hv.1⟩
theorem rowR_one {xs : List Value} {cs : List R3} {n : Nat} (hl : xs.length = n * 3) (hc : cs.length = n) (h : RowR xs cs n) : ∀ u ∈ xs, u.oneCell' = true := by
  intro u hu
  obtain ⟨j, hj⟩ := List.getElem?_of_mem hu
  have hjl := (List.getElem?_eq_some_iff.1 hj).1
  have hk : j / 3 < n := by omega
  have hx : cs[j / 3]? = some (cs[j / 3]'(by omega)) := List.getElem?_eq_getElem _
  obtain ⟨a, b, c⟩ := h _ _ hk hx
  rcases (show j = j / 3 * 3 ∨ j = j / 3 * 3 + 1 ∨ j = j / 3 * 3 + 2 by omega) with e | e | e
  · rw [← e] at a; rw [hj] at a; injection a with a; subst a; rfl
  · rw [← e] at b; rw [hj] at b; injection b with b; subst b; rfl
  · rw [← e] at c; rw [hj] at c; injection c with c; subst c; rfl
theorem ownR_alloc {w : World} {base : Nat} {v : Value} {n : Nat} {cs : List R3} (h : OwnR w base v n cs) (o : Obj) : OwnR (w.alloc o) base v n cs := by
  obtain ⟨xs, a, b⟩ := h; exact ⟨xs, a.alloc o, b⟩
theorem build_course0 (w : World) : (Instr.build 26 #[]).run Try.prog w = .ok (.agg #[.int .i64 0, .int .i64 0, .int .i64 0]) w := run_build w 26 _ _ (by kernel_rfl)
theorem ownR_copy {w : World} {base q : Nat} {v : Value} {xs : List Value} {cs : List R3} (h : w.ownsRow base 26 3 v (0 + q) ([] ++ xs)) (hl : cs.length = q) (hr : RowR xs cs q) : ∃ D d, v = .slice D q d ∧ OwnR w base (.slice D q d) q cs := by
  rw [Nat.zero_add, List.nil_append] at h
  have hf : OwnR w base v q cs := ⟨xs, h, hl, hr⟩
  rcases h.2 with ⟨hv, h0⟩ | ⟨g, cap, cur, hv, _⟩
  · subst hv; subst h0; exact ⟨_, _, rfl, hf⟩
  · subst hv; exact ⟨_, _, rfl, hf⟩
def DrewL2 (w : World) (e : Ending) (w' : World) : Prop := ∃ C q c cs D r d ds, e = .returned (.tuple #[.slice C q c, .slice D r d]) ∧ Recs w' C q cs ∧ Recs w' D r ds ∧ q ≤ 62 ∧ r ≤ 62 ∧ q ≤ c ∧ r ≤ d ∧ Below w.heap.size w w'
theorem ownR_setOther {w : World} {base g n c o : Nat} {C : Option Addr} {cs : List R3} {v : Value} (h : OwnR w base (.slice C n c) n cs) (hne : ∀ b, blk C = some b → b ≠ g) : OwnR (w.setCell ⟨g, o, none⟩ v) base (.slice C n c) n cs :=
  h.kept (grown_setCell w g o v) (by rw [blk_own]; cases hC : blk C with | none => exact .inl rfl | some b => right; intro e; injection e with e; exact hne b hC e)
set_option maxHeartbeats 2000000 in
theorem drawSameCourses_any (A : Option Addr) (n c : Nat) (w : World) (h : Bytes w w.heap.size A n) : Calls Try.prog 48 #[.slice A n c] w (DrewL2 w) := by
  obtain ⟨i0, hi0, hz0, hz1, hz2⟩ := info_parts info_R3
  go_enter Try.func48, Try.ntmps48
  go_wp2_with fail
  refine (l00From_any _ _ _ _ _ h (Nat.le_refl _)).mono ?_
  rintro e w1 ⟨rfl, hs1, hB⟩
  have hps := hs1.lt
  go_wp2_with fail
  refine (l13Draw_any _ _ _ _ hs1 (by omega)).mono ?_
  rintro e w2 ⟨C, q, c, cs, rfl, hr, hq, hc, hs2, hg2⟩
  have hps2 := hs2.lt
  have hcl := hr.lt'
  replace hB := hs1.below hB (Nat.le_refl _) hg2
  have hCp : ∀ g, blk C = some g → g ≠ w.heap.size := fun g hg e => by have := (hcl g hg).1; omega
  have hw12 := hg2.size
  clear hs1 hg2
  rcases ownR_or hr with ⟨rfl, rfl, rfl⟩ | ⟨g0, rfl⟩
  · have ho := OwnR.start w2 w2.heap.size (Nat.le_refl _)
    have hs3 := hs2.alloc (.cells #[] 26)
    have hB3 := hB.alloc hB.size (.cells #[] 26)
    replace hr := ownR_alloc hr (.cells #[] 26)
    have hDp : ∀ g, blk (some (⟨w2.heap.size, 0, none⟩ : Addr)) = some g → g ≠ w.heap.size := fun g e => by simp [blk] at e; omega
    have hDC : ∀ g, blk (none : Option Addr) = some g → blk (some (⟨w2.heap.size, 0, none⟩ : Addr)) ≠ some g := fun g e => by simp [blk] at e
    replace hs3 := hs3.mono (m := 0 + 1000 + 2 + 2) (by omega)
    obtain ⟨xs, hown, hlc, hrow⟩ := ho
    go_wp2_with (at_builtin; refine wpList_append_own_none rfl _ _ 37 rfl w2.heap.size 26 i0 3 Try.underlying37 hi0 _ _ _ rfl hown rfl ?_)
    have ho : OwnR _ _ _ _ _ := ⟨xs, hown, hlc, hrow⟩
    clear hown hlc hrow hs2 hB
    have hlw : w2.heap.size ≤ (w2.alloc (.cells #[] 26)).heap.size := by simp
    generalize w2.alloc (.cells #[] 26) = w3 at *
    · · skip
        (refine (one_any _ _ _ _ _ hs3 (by omega) (by omega)).mono ?_)
        rintro e w5 ⟨t5, rfl, hs5, hg5⟩
        replace hr := kept_p hr hg5 hCp
        replace ho := kept_p ho hg5 hDp
        replace hB3 := hs3.below hB3 (Nat.le_refl _) hg5
        have hsz5 := hg5.size
        have hps5 := hs5.lt
        clear hg5 hs3
        cases t5
        · go_wp2_with fail
          go_ret2
          exact ⟨_, _, _, _, _, _, _, _, rfl, hr.recs, ho.recs, by omega, by omega, hc, ownR_cap ho, hB3⟩
        · have hob := ho.lt'
          obtain ⟨xs, hown, hlc, hrow⟩ := ho
          have Hlc := Lib.hid hlc
          have Hnew := Lib.hid (cell_three_new w5 (.int .i64 0) (.int .i64 0) (.int .i64 0) 26 w5.heap.size rfl)
          have hbz := build_course0 w5
          clear hlc
          go_wp2_with (at_builtin; refine wpList_append_own _ rfl _ _ 37 rfl w2.heap.size 26 i0 (.agg #[.int .i64 0, .int .i64 0, .int .i64 0]) 3 24 Try.underlying37 hi0 hz0 hz1 hz2 rfl (by decide) _ _ _ rfl (hown.alloc _) ⟨w5.heap.size, 0, none⟩ 1 1 [.int .i64 0, .int .i64 0, .int .i64 0] rfl rfl Hnew.out (ints_oneCell .i64 [0, 0, 0]) (by unfold maxLen; omega) (by omega) (by simp; omega) ?_; intro v1 w6 hown1 hgrow1 _)
          replace hgrow1 : (w5.alloc _).grownBy w6 (Value.slice (some ⟨w2.heap.size, 0, none⟩) 0 0).ownBlock := hgrow1
          rw [blk_own] at hgrow1
          obtain ⟨D', d', rfl, ho6⟩ := ownR_app (x := (0, 0, 0)) hown1 Hlc.out hrow
          have hB6 := (hB3.alloc hB3.size _).grown hgrow1 (by simp; omega) (fun j e => by have := (hob j e).1; omega)
          replace hr := ownR_alloc hr (.cells #[.int .i64 0, .int .i64 0, .int .i64 0] 26)
          replace hr : OwnR w6 w1.heap.size _ _ _ := hr.kept hgrow1 (by rw [blk_own]; cases hC : blk (none : Option Addr) with | none => exact .inl rfl | some g => right; intro e; exact hDC g hC e.symm)
          go_wp2_with fail
          go_ret2
          exact ⟨_, _, _, _, _, _, _, _, rfl, hr.recs, ho6.recs, by omega, by omega, hc, ownR_cap ho6, hB6⟩
  · have hs3 := hs2.alloc (.cells #[] 26)
    have hB3 := hB.alloc hB.size (.cells #[] 26)
    replace hr := ownR_alloc hr (.cells #[] 26)
    have hg0 := (hcl g0 rfl).2
    have hlw0 : w2.heap.size ≤ (w2.alloc (.cells #[] 26)).heap.size := by simp
    obtain ⟨xs0, hown0, hlc0, hrow0⟩ := OwnR.start w2 w2.heap.size (Nat.le_refl _)
    obtain rfl : xs0 = [] := List.eq_nil_of_length_eq_zero (by have := hown0.1; simpa using this)
    have hr' := hr
    obtain ⟨ys, hys, hly, hrowy⟩ := hr'
    have H1 := Lib.hid (rowR_one hys.1 hly hrowy)
    have H2 := Lib.hid hrowy
    have H3 := Lib.hid hly
    have hyl := hys.1
    have Hnew := Lib.hid (fun j u (hj : ys[j]? = some u) => show (w2.alloc (.cells #[] 26)).cell? ((⟨g0, 0, none⟩ : Addr).add j) = some u from by
      have hjl := (List.getElem?_eq_some_iff.1 hj).1
      rw [show (⟨g0, 0, none⟩ : Addr).add j = ⟨g0, j, none⟩ by unfold Addr.add; split <;> simp_all, World.ownsRow.cellAt hys j (by omega)]; exact hj)
    clear hrow0 hlc0 hrowy hly hys
    rcases Nat.eq_zero_or_pos q with hq0 | hq0
    · have k0 : decide (0 < q) = false := by simp; omega
      have k1 : (q : Int) ≤ 0 := by omega
      clear hq0
      go_wp2_with (at_builtin; refine wpList_append_own _ rfl _ _ 37 rfl w2.heap.size 26 i0 (.agg #[.int .i64 0, .int .i64 0, .int .i64 0]) 3 24 Try.underlying37 hi0 hz0 hz1 hz2 rfl (by decide) _ _ _ rfl hown0 ⟨g0, 0, none⟩ q c ys rfl hyl Hnew.out H1.out (by unfold maxLen; omega) (by omega) (by omega) ?_; intro v1 w6 hown1 hgrow1 _; obtain ⟨D, d, rfl, ho⟩ := ownR_copy hown1 H3.out H2.out)
      replace hgrow1 : (w2.alloc _).grownBy w6 (Value.slice (some ⟨w2.heap.size, 0, none⟩) 0 0).ownBlock := hgrow1
      rw [blk_own] at hgrow1
      have hw24 : w2.heap.size ≤ w6.heap.size := by have := hgrow1.size; omega
      generalize w2.alloc (.cells #[] 26) = w3 at *
      replace hr := kept_p hr hgrow1 (fun g e => by simp [blk] at e ⊢; omega)
      replace hs3 := hs3.grown hgrow1 (fun g e => by simp [blk] at e; omega)
      replace hB3 := hB3.grown hgrow1 hB3.size (fun g e => by simp [blk] at e; omega)
      replace hs3 := hs3.mono (m := 0 + 1000 + 2 + 2) (by omega)
      have hdl := ho.lt'
      have hDp : ∀ g, blk D = some g → g ≠ w.heap.size := fun g e => by have := (hdl g e).1; omega
      have hDC : ∀ g, blk (some (⟨g0, 0, none⟩ : Addr)) = some g → blk D ≠ some g := fun g e e2 => by have := (hdl g e2).1; simp [blk] at e; omega
      clear hown1 hgrow1 hs2 hB Hnew H1 H2 H3 hown0 hyl
      generalize hw4 : w6 = w4 at *
      clear hw4
      · skip
        (refine (one_any _ _ _ _ _ hs3 (by omega) (by omega)).mono ?_)
        rintro e w5 ⟨t5, rfl, hs5, hg5⟩
        replace hr := kept_p hr hg5 hCp
        replace ho := kept_p ho hg5 hDp
        replace hB3 := hs3.below hB3 (Nat.le_refl _) hg5
        have hsz5 := hg5.size
        have hps5 := hs5.lt
        clear hg5 hs3
        cases t5
        · go_wp2_with fail
          go_ret2
          exact ⟨_, _, _, _, _, _, _, _, rfl, hr.recs, ho.recs, by omega, by omega, hc, ownR_cap ho, hB3⟩
        · have hob := ho.lt'
          obtain ⟨xs, hown, hlc, hrow⟩ := ho
          have Hlc := Lib.hid hlc
          have Hnew := Lib.hid (cell_three_new w5 (.int .i64 0) (.int .i64 0) (.int .i64 0) 26 w5.heap.size rfl)
          have hbz := build_course0 w5
          clear hlc
          go_wp2_with (at_builtin; refine wpList_append_own _ rfl _ _ 37 rfl w2.heap.size 26 i0 (.agg #[.int .i64 0, .int .i64 0, .int .i64 0]) 3 24 Try.underlying37 hi0 hz0 hz1 hz2 rfl (by decide) _ _ _ rfl (hown.alloc _) ⟨w5.heap.size, 0, none⟩ 1 1 [.int .i64 0, .int .i64 0, .int .i64 0] rfl rfl Hnew.out (ints_oneCell .i64 [0, 0, 0]) (by unfold maxLen; omega) (by omega) (by simp; omega) ?_; intro v1 w6 hown1 hgrow1 _)
          replace hgrow1 : (w5.alloc _).grownBy w6 (Value.slice D q d).ownBlock := hgrow1
          rw [blk_own] at hgrow1
          obtain ⟨D', d', rfl, ho6⟩ := ownR_app (x := (0, 0, 0)) hown1 Hlc.out hrow
          have hB6 := (hB3.alloc hB3.size _).grown hgrow1 (by simp; omega) (fun j e => by have := (hob j e).1; omega)
          replace hr := ownR_alloc hr (.cells #[.int .i64 0, .int .i64 0, .int .i64 0] 26)
          replace hr : OwnR w6 w1.heap.size _ _ _ := hr.kept hgrow1 (by rw [blk_own]; cases hC : blk (some (⟨g0, 0, none⟩ : Addr)) with | none => exact .inl rfl | some g => right; intro e; exact hDC g hC e.symm)
          go_wp2_with fail
          go_ret2
          exact ⟨_, _, _, _, _, _, _, _, rfl, hr.recs, ho6.recs, by omega, by omega, hc, ownR_cap ho6, hB6⟩
    · have k0 : (0 : Int) < (q : Int) := by omega
      have k1 : decide (0 < q) = true := by simpa using hq0
      go_wp2_with (at_builtin; refine wpList_append_own _ rfl _ _ 37 rfl w2.heap.size 26 i0 (.agg #[.int .i64 0, .int .i64 0, .int .i64 0]) 3 24 Try.underlying37 hi0 hz0 hz1 hz2 rfl (by decide) _ _ _ rfl hown0 ⟨g0, 0, none⟩ q c ys rfl hyl Hnew.out H1.out (by unfold maxLen; omega) (by omega) (by omega) ?_; intro v1 w6 hown1 hgrow1 _; obtain ⟨D, d, rfl, ho⟩ := ownR_copy hown1 H3.out H2.out)
      replace hgrow1 : (w2.alloc _).grownBy w6 (Value.slice (some ⟨w2.heap.size, 0, none⟩) 0 0).ownBlock := hgrow1
      rw [blk_own] at hgrow1
      have hw24 : w2.heap.size ≤ w6.heap.size := by have := hgrow1.size; omega
      generalize w2.alloc (.cells #[] 26) = w3 at *
      replace hr := kept_p hr hgrow1 (fun g e => by simp [blk] at e ⊢; omega)
      replace hs3 := hs3.grown hgrow1 (fun g e => by simp [blk] at e; omega)
      replace hB3 := hB3.grown hgrow1 hB3.size (fun g e => by simp [blk] at e; omega)
      replace hs3 := hs3.mono (m := 0 + 1000 + 2 + 2) (by omega)
      have hdl := ho.lt'
      have hDp : ∀ g, blk D = some g → g ≠ w.heap.size := fun g e => by have := (hdl g e).1; omega
      have hDC : ∀ g, blk (some (⟨g0, 0, none⟩ : Addr)) = some g → blk D ≠ some g := fun g e e2 => by have := (hdl g e2).1; simp [blk] at e; omega
      clear hown1 hgrow1 hs2 hB Hnew H1 H2 H3 hown0 hyl
      generalize hw4 : w6 = w4 at *
      clear hw4
      (refine (one_any _ _ _ _ _ hs3 (by omega) (by omega)).mono ?_)
      rintro e w5 ⟨t, rfl, hs4, hg4⟩
      replace hr := kept_p hr hg4 hCp
      replace ho := kept_p ho hg4 hDp
      replace hB3 := hs3.below hB3 (Nat.le_refl _) hg4
      have hps4 := hs4.lt
      replace hw24 : w2.heap.size ≤ w5.heap.size := by have := hg4.size; omega
      clear hs3 hg4
      have hs3 := hs4
      clear hs4
      cases t
      · go_wp2_with fail
        (refine (one_any _ _ _ _ _ hs3 (by omega) (by omega)).mono ?_)
        rintro e w5 ⟨t5, rfl, hs5, hg5⟩
        replace hr := kept_p hr hg5 hCp
        replace ho := kept_p ho hg5 hDp
        replace hB3 := hs3.below hB3 (Nat.le_refl _) hg5
        have hsz5 := hg5.size
        have hps5 := hs5.lt
        clear hg5 hs3
        cases t5
        · go_wp2_with fail
          go_ret2
          exact ⟨_, _, _, _, _, _, _, _, rfl, hr.recs, ho.recs, by omega, by omega, hc, ownR_cap ho, hB3⟩
        · have hob := ho.lt'
          obtain ⟨xs, hown, hlc, hrow⟩ := ho
          have Hlc := Lib.hid hlc
          have Hnew := Lib.hid (cell_three_new w5 (.int .i64 0) (.int .i64 0) (.int .i64 0) 26 w5.heap.size rfl)
          have hbz := build_course0 w5
          clear hlc
          go_wp2_with (at_builtin; refine wpList_append_own _ rfl _ _ 37 rfl w2.heap.size 26 i0 (.agg #[.int .i64 0, .int .i64 0, .int .i64 0]) 3 24 Try.underlying37 hi0 hz0 hz1 hz2 rfl (by decide) _ _ _ rfl (hown.alloc _) ⟨w5.heap.size, 0, none⟩ 1 1 [.int .i64 0, .int .i64 0, .int .i64 0] rfl rfl Hnew.out (ints_oneCell .i64 [0, 0, 0]) (by unfold maxLen; omega) (by omega) (by simp; omega) ?_; intro v1 w6 hown1 hgrow1 _)
          replace hgrow1 : (w5.alloc _).grownBy w6 (Value.slice D q d).ownBlock := hgrow1
          rw [blk_own] at hgrow1
          obtain ⟨D', d', rfl, ho6⟩ := ownR_app (x := (0, 0, 0)) hown1 Hlc.out hrow
          have hB6 := (hB3.alloc hB3.size _).grown hgrow1 (by simp; omega) (fun j e => by have := (hob j e).1; omega)
          replace hr := ownR_alloc hr (.cells #[.int .i64 0, .int .i64 0, .int .i64 0] 26)
          replace hr : OwnR w6 w1.heap.size _ _ _ := hr.kept hgrow1 (by rw [blk_own]; cases hC : blk (some (⟨g0, 0, none⟩ : Addr)) with | none => exact .inl rfl | some g => right; intro e; exact hDC g hC e.symm)
          go_wp2_with fail
          go_ret2
          exact ⟨_, _, _, _, _, _, _, _, rfl, hr.recs, ho6.recs, by omega, by omega, hc, ownR_cap ho6, hB6⟩
      · obtain ⟨g, rfl⟩ : ∃ g, D = some ⟨g, 0, none⟩ := by
          rcases ownR_or ho with ⟨_, h2, _⟩ | h2
          · omega
          · exact h2
        obtain ⟨x, x2⟩ := ho.b3 hq0
        have hXp : g ≠ w.heap.size := hDp g rfl
        have e1 := x2.c1
        have e2 := x2.z1
        go_wp2_with fail
        go_region_with ((go_at_call 75; refine (pick_any _ _ _ _ _ hs3.drew (by omega) (by omega)).mono ?_; rintro e w9 ⟨v, rfl, v0, v1, hs5, hg5⟩; have y0 := x2.drew.grown hg5 hXp; have y2 := y0.c1; have y3 := y0.z1))
        all_goals
          have hr9 := kept_p hr (grownD hg5) hCp
          have ho9 := kept_p ho (grownD hg5) hDp
          have hB9 := hs3.below hB3 (Nat.le_refl _) (grownD hg5)
          have hgw := (hdl g rfl).1
          obtain ⟨ds, ho7⟩ := ho9.poke hq0 (show 1 ≤ 2 by omega) (IntKind.i64.wrap (x.2.1 + v))
          have hr7 := ownR_setOther (o := 1) (v := .int .i64 (IntKind.i64.wrap (x.2.1 + v))) hr9 (g := g) (fun b hb e => hDC b hb (by rw [e]; rfl))
          have hs7 := hs5.setCell 1 (.int .i64 (IntKind.i64.wrap (x.2.1 + v))) (show w.heap.size ≤ g by omega) hXp
          have hB7 := hB9.setCell (p := ⟨g, 1, none⟩) (show w.heap.size ≤ g by omega) (.int .i64 (IntKind.i64.wrap (x.2.1 + v)))
          replace hw24 : w2.heap.size ≤ (w9.setCell ⟨g, 1, none⟩ (.int .i64 (IntKind.i64.wrap (x.2.1 + v)))).heap.size := by have h5 := (grownD hg5).size; simp; omega
          clear hr ho hB3 hs3 hr9 ho9 hB9 hs5 hg5 y0 y2 y3 e1 e2 x2
          have hr := hr7
          have ho := ho7
          have hs3 := hs7
          have hB3 := hB7
          clear hr7 ho7 hs7 hB7
          generalize w9.setCell ⟨g, 1, none⟩ (.int .i64 (IntKind.i64.wrap (x.2.1 + v))) = wz at *
          go_wp2_with fail
          (refine (one_any _ _ _ _ _ hs3 (by omega) (by omega)).mono ?_)
          rintro e w5 ⟨t5, rfl, hs5, hg5⟩
          replace hr := kept_p hr hg5 hCp
          replace ho := kept_p ho hg5 hDp
          replace hB3 := hs3.below hB3 (Nat.le_refl _) hg5
          have hsz5 := hg5.size
          have hps5 := hs5.lt
          clear hg5 hs3
          cases t5
          · go_wp2_with fail
            go_ret2
            exact ⟨_, _, _, _, _, _, _, _, rfl, hr.recs, ho.recs, by omega, by omega, hc, ownR_cap ho, hB3⟩
          · have hob := ho.lt'
            obtain ⟨xs, hown, hlc, hrow⟩ := ho
            have Hlc := Lib.hid hlc
            have Hnew := Lib.hid (cell_three_new w5 (.int .i64 0) (.int .i64 0) (.int .i64 0) 26 w5.heap.size rfl)
            have hbz := build_course0 w5
            clear hlc
            go_wp2_with (at_builtin; refine wpList_append_own _ rfl _ _ 37 rfl w2.heap.size 26 i0 (.agg #[.int .i64 0, .int .i64 0, .int .i64 0]) 3 24 Try.underlying37 hi0 hz0 hz1 hz2 rfl (by decide) _ _ _ rfl (hown.alloc _) ⟨w5.heap.size, 0, none⟩ 1 1 [.int .i64 0, .int .i64 0, .int .i64 0] rfl rfl Hnew.out (ints_oneCell .i64 [0, 0, 0]) (by unfold maxLen; omega) (by omega) (by simp; omega) ?_; intro v1 w6 hown1 hgrow1 _)
            replace hgrow1 : (w5.alloc _).grownBy w6 (Value.slice (some (⟨g, 0, none⟩ : Addr)) q d).ownBlock := hgrow1
            rw [blk_own] at hgrow1
            obtain ⟨D', d', rfl, ho6⟩ := ownR_app (x := (0, 0, 0)) hown1 Hlc.out hrow
            have hB6 := (hB3.alloc hB3.size _).grown hgrow1 (by simp; omega) (fun j e => by have := (hob j e).1; omega)
            replace hr := ownR_alloc hr (.cells #[.int .i64 0, .int .i64 0, .int .i64 0] 26)
            replace hr : OwnR w6 w1.heap.size _ _ _ := hr.kept hgrow1 (by rw [blk_own]; cases hC : blk (some (⟨g0, 0, none⟩ : Addr)) with | none => exact .inl rfl | some g => right; intro e; exact hDC g hC e.symm)
            go_wp2_with fail
            go_ret2
            exact ⟨_, _, _, _, _, _, _, _, rfl, hr.recs, ho6.recs, by omega, by omega, hc, ownR_cap ho6, hB6⟩
end Go.Proofs.Ytelbedmfnmjehaa
