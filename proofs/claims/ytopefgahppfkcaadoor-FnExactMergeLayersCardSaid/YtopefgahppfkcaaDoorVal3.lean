/- A basket that is built up: a layer that is added; a border. -/
import Derived.Test.YtopefgahppfkcaaDoorVal2
namespace Go.Proofs.YtopefgahppfkcaaDoor
open Go.RowKit
set_option linter.unusedVariables false
set_option linter.unusedSimpArgs false

theorem cell_two_new (w : World) (x y : Value) (t B : Nat) (hB : B = w.heap.size) : ∀ j u, [x, y][j]? = some u → (w.alloc (.cells #[x, y] t)).cell? ((⟨B, 0, none⟩ : Addr).add j) = some u := by
  intro j u hj
  subst hB
  have hadd : (⟨w.heap.size, 0, none⟩ : Addr).add j = ⟨w.heap.size, j, none⟩ := by unfold Addr.add; split <;> simp_all
  rw [hadd, World.cell?_alloc_new]
  simpa using hj
theorem one_two (x : ByteArray) (y : Int) : ∀ u ∈ ([.string x, .int .i64 y] : List Value), u.oneCell' = true := fun u hu => by
  simp at hu; rcases hu with rfl | rfl <;> rfl
/-- What an append leaves of the basket. -/
theorem bk_app {w0 w1 : World} {base q g m c cap : Nat} {st : Int} {C : Option Addr} {xs : List Value} (hq : q < w0.heap.size) (c0 : w0.cell? ⟨q, 0, none⟩ = some (.int .i64 st)) (c1 : w0.cell? ⟨q, 1, none⟩ = some (.slice C m c)) (c2 : w0.cell? ⟨q, 2, none⟩ = some (.string ⟨#[]⟩))
    (z0 : w0.frozen? ⟨q, 0, none⟩ = false) (z1 : w0.frozen? ⟨q, 1, none⟩ = false) (z2 : w0.frozen? ⟨q, 2, none⟩ = false) (lo : base ≤ q) (hne : blk C ≠ some q)
    (ho : w1.ownsRow base 56 2 (.slice (some ⟨g, 0, none⟩) (m + 1) cap) (m + 1) xs) (hg : w0.grownBy w1 (Value.slice C m c).ownBlock) (hat : (Value.slice C m c).ownBlock = some g ∨ g = w0.heap.size) :
    w1.cell? ⟨q, 1, none⟩ = some (.slice C m c) ∧ w1.frozen? ⟨q, 1, none⟩ = false ∧ Bk (w1.setCell ⟨q, 1, none⟩ (.slice (some ⟨g, 0, none⟩) (m + 1) cap)) base q st (m + 1) := by
  rw [blk_own] at hg hat
  have hn : ∀ o : Nat, some (⟨q, o, none⟩ : Addr).block ≠ blk C := fun o e => hne e.symm
  have k0 := hg.cell c0 (hn 0)
  have k1 := hg.cell c1 (hn 1)
  have k2 := hg.cell c2 (hn 2)
  have f0 := (hg.frozen_far _ hq (hn 0)).trans z0
  have f1 := (hg.frozen_far _ hq (hn 1)).trans z1
  have f2 := (hg.frozen_far _ hq (hn 2)).trans z2
  have hgq : g ≠ q := by
    rintro rfl
    rcases hat with h | h
    · exact hne h
    · omega
  refine ⟨k1, f1, ?_⟩
  refine ⟨(World.cell?_setCell_other _ _ _ _ (by simp)).trans k0, ⟨some ⟨g, 0, none⟩, cap, xs, World.cell?_setCell_same _ _ _ k1, ?_, by simpa [blk] using hgq⟩, (World.cell?_setCell_other _ _ _ _ (by simp)).trans k2, by simpa using f0, by simpa using f1, by simpa using f2, lo⟩
  refine World.ownsRow.kept (row := some q) ho (growS w1 q 1 _) ?_
  rw [blk_own]; right; simpa [blk] using hgq
theorem info_L : (Tryd.prog.info? 56).map (fun i => (i.zero, i.size, i.bytes)) = some (some (.agg #[.string ⟨#[]⟩, .int .i64 0]), 2, 24) := by kernel_rfl
theorem grownD {w w1 : World} {r : Option Nat} (h : w.drew.grownBy w1 r) : w.grownBy w1 r := ⟨h.os, h.tape, h.output, h.size, h.block⟩
set_option maxRecDepth 100000 in
set_option maxHeartbeats 4000000 in
theorem addLayer_yes (base q : Nat) (st : Int) (m : Nat) (x : R2) (w : World) (h : Bk w base q st m) (hx : x.1.size ≤ maxLen) (hb : base ≤ w.heap.size) (hok : okLay x = true) (hst : st ≠ 0) (hm : m < 40) : Calls Tryd.prog 32 #[.pointer (some ⟨q, 0, none⟩), .agg #[.string x.1, .int .i64 x.2]] w (YesPost base q st (m + 1) w) := by
  obtain ⟨i0, hi0, hz0, hz1, hz2⟩ := info_parts info_L
  have hlt := h.lt
  have hK := h.keep ((Below.refl _ _).alloc (Nat.le_refl _) (.cells #[.string x.1, .int .i64 x.2] 56))
  obtain ⟨h1, h2⟩ : okTwo 70 66 12 x.1 = true ∧ inB x.2 1 100 = true := by simpa [okLay] using hok
  have t3 : (st == 0) = false := by simpa using hst
  have t4 : ((m : Int) == 40) = false := by rw [beq_eq_false_iff_ne]; omega
  have t5 : ¬ (40 : Int) ≤ (m : Int) := by omega
  have hmx : m + 1 ≤ maxLen := by unfold maxLen; omega
  clear hst hok
  go_enter Tryd.func32, Tryd.ntmps32
  go_wp2_with fail
  refine (validStroke_eq _ true _ hx h1).mono ?_
  rintro e w' ⟨rfl, hb1⟩
  obtain ⟨hc, hf⟩ := bcell hb1
  have hK1 := hK.keep hb1
  have k0 := hK1.c0
  obtain ⟨C, c, xs, k1, ho, hne⟩ := hK1.c1
  have k2 := hK1.c2
  have z1 := hK1.z1
  have b0 : w'.cell? ⟨w.heap.size, 0, none⟩ = some (.string x.1) := keepc hb1 (by go_cell)
  have b1 : w'.cell? ⟨w.heap.size, 1, none⟩ = some (.int .i64 x.2) := keepc hb1 (by go_cell)
  have hlt1 := hK1.lt
  have hblt : w.heap.size < w'.heap.size := World.block_lt_of_cell? _ _ b0
  clear hc hf
  go_wp2_with fail
  refine (withinE _ _ _ true _ h2).mono ?_
  rintro e w'' ⟨rfl, rfl⟩
  have HO := Box0.mk ho
  clear ho
  have hK2 := hK1.keep ((Below.refl _ _).alloc (Nat.le_refl _) (.cells #[.string x.1, .int .i64 x.2] 56))
  have HK := Box0.mk hK2
  have J1 := Box0.mk (keepc ((Below.refl w'.heap.size w').alloc (Nat.le_refl _) (.cells #[.string x.1, .int .i64 x.2] 56)) k1)
  have HN := Box0.mk hne
  clear hne hK2 hK
  have hbw : base ≤ w'.heap.size := by omega
  go_wp2_with fail
  go_region_law ((refine step_append_lies _ (by rfl) _ _ 33 (by rfl) base 56 i0 (.agg #[.string ⟨#[]⟩, .int .i64 0]) 2 24 Tryd.underlying33 hi0 hz0 hz1 hz2 rfl (by decide) (.slice C m c) m xs (by rfl) (by first | exact HO.out.alloc _ | exact World.ownsRow.drew (HO.out.alloc _)) ⟨w'.heap.size, 0, none⟩ 1 1 [.string x.1, .int .i64 x.2] (by rfl) (by rfl) (fun j u hj => cell_two_new w' _ _ _ _ rfl j u hj) (one_two _ _) (by decide) (by omega) (by omega) (by simp; omega) (w'.heap.size + 1) (by simp) ?_; intro g cap w1 hown1 hgrow1 hat1 hlt1; obtain ⟨kk, ff, hBk⟩ := bk_app (by first | exact HK.out.lt | (simp; omega)) HK.out.c0 J1.out HK.out.c2 HK.out.z0 HK.out.z1 HK.out.z2 HK.out.lo HN.out hown1 (grownD hgrow1) (by first | exact hat1 | simpa using hat1); have hBb := Box0.mk hBk; clear hBk; have hG := Box0.mk hgrow1; have hw1 : w'.heap.size ≤ w1.heap.size := by (have := hgrow1.size; simp at this; omega)))
  all_goals
    go_wp2
    go_ret
    refine ⟨rfl, hBb.out, ?_⟩
    have hB0 : Below base w w' := ((Below.refl base w).alloc hb _).trans (hb1.mono (by simp; omega))
    have hB1 : Below base w w1 := by
      refine Below.trans hB0 (Below.trans ((Below.refl base w').alloc hbw (.cells #[.string x.1, .int .i64 x.2] 56)) ?_)
      exact (Below.refl base _).grown (grownD hG.out) (by simp; omega) (fun g e => (World.ownsRow.lt HO.out g e).1)
    exact hB1.setCell h.lo _
set_option maxRecDepth 100000 in
set_option maxHeartbeats 4000000 in
theorem l17Layer_yes (base q : Nat) (st : Int) (m : Nat) (x : R2) (w : World) (h : Bk w base q st m) (hx : x.1.size ≤ maxLen) (hb : base ≤ w.heap.size) (hok : okLay x = true) (hst : st ≠ 0) (hm : m < 40) : Calls Tryd.prog 41 #[.pointer (some ⟨q, 0, none⟩), .agg #[.string x.1, .int .i64 x.2]] w (YesPost base q st (m + 1) w) := by
  obtain ⟨i0, hi0, hz0, hz1, hz2⟩ := info_parts info_L
  have hlt := h.lt
  have hK := h.keep ((Below.refl _ _).alloc (Nat.le_refl _) (.cells #[.string x.1, .int .i64 x.2] 56))
  obtain ⟨h1, h2⟩ : okTwo 70 66 12 x.1 = true ∧ inB x.2 1 100 = true := by simpa [okLay] using hok
  have t3 : (st == 0) = false := by simpa using hst
  have t4 : ((m : Int) == 40) = false := by rw [beq_eq_false_iff_ne]; omega
  have t5 : ¬ (40 : Int) ≤ (m : Int) := by omega
  have hmx : m + 1 ≤ maxLen := by unfold maxLen; omega
  clear hst hok
  go_enter Tryd.func41, Tryd.ntmps41
  go_wp2_with fail
  refine (l06Ok_eq _ true _ hx h1).mono ?_
  rintro e w' ⟨rfl, hb1⟩
  obtain ⟨hc, hf⟩ := bcell hb1
  have hK1 := hK.keep hb1
  have k0 := hK1.c0
  obtain ⟨C, c, xs, k1, ho, hne⟩ := hK1.c1
  have k2 := hK1.c2
  have z1 := hK1.z1
  have b0 : w'.cell? ⟨w.heap.size, 0, none⟩ = some (.string x.1) := keepc hb1 (by go_cell)
  have b1 : w'.cell? ⟨w.heap.size, 1, none⟩ = some (.int .i64 x.2) := keepc hb1 (by go_cell)
  have hlt1 := hK1.lt
  have hblt : w.heap.size < w'.heap.size := World.block_lt_of_cell? _ _ b0
  clear hc hf
  go_wp2_with fail
  refine (l00InE _ _ _ true _ h2).mono ?_
  rintro e w'' ⟨rfl, rfl⟩
  have HO := Box0.mk ho
  clear ho
  have hK2 := hK1.keep ((Below.refl _ _).alloc (Nat.le_refl _) (.cells #[.string x.1, .int .i64 x.2] 56))
  have HK := Box0.mk hK2
  have J1 := Box0.mk (keepc ((Below.refl w'.heap.size w').alloc (Nat.le_refl _) (.cells #[.string x.1, .int .i64 x.2] 56)) k1)
  have HN := Box0.mk hne
  clear hne hK2 hK
  have hbw : base ≤ w'.heap.size := by omega
  go_wp2_with fail
  go_region_law ((refine step_append_lies _ (by rfl) _ _ 33 (by rfl) base 56 i0 (.agg #[.string ⟨#[]⟩, .int .i64 0]) 2 24 Tryd.underlying33 hi0 hz0 hz1 hz2 rfl (by decide) (.slice C m c) m xs (by rfl) (by first | exact HO.out.alloc _ | exact World.ownsRow.drew (HO.out.alloc _)) ⟨w'.heap.size, 0, none⟩ 1 1 [.string x.1, .int .i64 x.2] (by rfl) (by rfl) (fun j u hj => cell_two_new w' _ _ _ _ rfl j u hj) (one_two _ _) (by decide) (by omega) (by omega) (by simp; omega) (w'.heap.size + 1) (by simp) ?_; intro g cap w1 hown1 hgrow1 hat1 hlt1; obtain ⟨kk, ff, hBk⟩ := bk_app (by first | exact HK.out.lt | (simp; omega)) HK.out.c0 J1.out HK.out.c2 HK.out.z0 HK.out.z1 HK.out.z2 HK.out.lo HN.out hown1 (grownD hgrow1) (by first | exact hat1 | simpa using hat1); have hBb := Box0.mk hBk; clear hBk; have hG := Box0.mk hgrow1; have hw1 : w'.heap.size ≤ w1.heap.size := by (have := hgrow1.size; simp at this; omega)))
  all_goals
    go_wp2
    go_ret
    refine ⟨rfl, hBb.out, ?_⟩
    have hB0 : Below base w w' := ((Below.refl base w).alloc hb _).trans (hb1.mono (by simp; omega))
    have hB1 : Below base w w1 := by
      refine Below.trans hB0 (Below.trans ((Below.refl base w').alloc hbw (.cells #[.string x.1, .int .i64 x.2] 56)) ?_)
      exact (Below.refl base _).grown (grownD hG.out) (by simp; omega) (fun g e => (World.ownsRow.lt HO.out g e).1)
    exact hB1.setCell h.lo _
def okBord (st : Int) (b : ByteArray) : Bool := okTwo 98 102 8 b && inB st ((b.size : Int) + 2) 40
def YesB (base : Nat) (w : World) (e : Ending) (w' : World) : Prop := e = .returned (.int .i64 0) ∧ Below base w w'
theorem l11Stakes_eq (s : ByteArray) (n : Int) (v : Bool) (w : World) (hs : s.size ≤ 8) (h : inB n ((s.size : Int) + 2) 40 = v) : Calls Tryd.prog 54 #[.string s, .int .i64 n] w fun e w' => e = .returned (.bool v) ∧ Below w.heap.size w w' := by
  subst h
  refine (l11Stakes_any s n w hs).mono ?_
  rintro e w' ⟨rfl, rfl⟩
  exact ⟨rfl, Below.refl _ _⟩
theorem bendCode_no (s : ByteArray) (n : Int) (w : World) (hs : okTwo 98 102 8 s = true) (n3 : 3 ≤ n) (n60 : n ≤ 60) (hv : inB n ((s.size : Int) + 2) 40 = false) : Calls Tryd.prog 47 #[.string s, .int .i64 n, .int .i64 0] w fun e w' => e = .returned (.int .i64 2) ∧ Below w.heap.size w w' := bendCode_any s n false w hs n3 n60 hv
theorem bendCode_yes (s : ByteArray) (n : Int) (w : World) (hs : okTwo 98 102 8 s = true) (n3 : 3 ≤ n) (n60 : n ≤ 60) (hv : inB n ((s.size : Int) + 2) 40 = true) : Calls Tryd.prog 47 #[.string s, .int .i64 n, .int .i64 0] w fun e w' => e = .returned (.int .i64 0) ∧ Below w.heap.size w w' := bendCode_any s n true w hs n3 n60 hv
theorem setBorder_no (base q : Nat) (st : Int) (m : Nat) (b : ByteArray) (w : World) (h : Bk w base q st m) (hb : b.size ≤ maxLen) (hs : st = 0 ∨ (3 ≤ st ∧ st ≤ 60)) (hn : st = 0 ∨ okBord st b = false) : Calls Tryd.prog 33 #[.pointer (some ⟨q, 0, none⟩), .string b] w (NoPost base w) := by
  have hlt := h.lt
  cases h1 : okTwo 98 102 8 b
  · go_enter Tryd.func33, Tryd.ntmps33
    go_wp2_with fail
    refine (validBends_eq _ false _ hb h1).mono ?_
    rintro e w' ⟨rfl, hb1⟩
    go_wp2_with fail
    go_ret
    exact ⟨_, rfl, by decide, hb1⟩
  by_cases h0 : st = 0
  · subst h0
    go_enter Tryd.func33, Tryd.ntmps33
    go_wp2_with fail
    refine (validBends_eq _ true _ hb h1).mono ?_
    rintro e w' ⟨rfl, hb1⟩
    have k0 := (h.keep hb1).c0
    go_wp2_with fail
    go_ret
    exact ⟨_, rfl, by decide, hb1⟩
  · obtain ⟨s3, s60⟩ := hs.resolve_left h0
    have h2 : inB st ((b.size : Int) + 2) 40 = false := by
      have := hn.resolve_left h0
      unfold okBord at this
      rw [h1] at this
      simpa using this
    have t0 : (st == 0) = false := by simpa using h0
    have hsz := okTwo_size h1
    clear h0 hn hs
    go_enter Tryd.func33, Tryd.ntmps33
    go_wp2_with fail
    refine (validBends_eq _ true _ hb h1).mono ?_
    rintro e w' ⟨rfl, hb1⟩
    have hK := h.keep hb1
    have k0 := hK.c0
    have k2 := hK.c2
    go_wp2_with fail
    refine (bendCode_no b st _ h1 s3 s60 h2).mono ?_
    rintro e w'' ⟨rfl, hb2⟩
    go_wp2_with fail
    go_ret
    exact ⟨_, rfl, by decide, belowT hb2 hb1⟩
theorem setBorder_yes (base q : Nat) (st : Int) (m : Nat) (b : ByteArray) (w : World) (h : Bk w base q st m) (hb : b.size ≤ maxLen) (hbw : base ≤ w.heap.size) (s3 : 3 ≤ st) (s60 : st ≤ 60) (hn : okBord st b = true) : Calls Tryd.prog 33 #[.pointer (some ⟨q, 0, none⟩), .string b] w (YesB base w) := by
  have hlt := h.lt
  obtain ⟨h1, h2⟩ : okTwo 98 102 8 b = true ∧ inB st ((b.size : Int) + 2) 40 = true := by simpa [okBord] using hn
  have t0 : (st == 0) = false := by rw [beq_eq_false_iff_ne]; omega
  have hsz := okTwo_size h1
  clear hn
  go_enter Tryd.func33, Tryd.ntmps33
  go_wp2_with fail
  refine (validBends_eq _ true _ hb h1).mono ?_
  rintro e w' ⟨rfl, hb1⟩
  have hK := h.keep hb1
  have k0 := hK.c0
  have k2 := hK.c2
  go_wp2_with fail
  refine (bendCode_yes b st _ h1 s3 s60 h2).mono ?_
  rintro e w'' ⟨rfl, hb2⟩
  have hK2 := hK.keep hb2
  have c2 := hK2.c2
  have z2 := hK2.z2
  go_wp2_with fail
  go_ret
  exact ⟨rfl, Below.setCell ((belowT hb2 hb1).mono hbw) h.lo _⟩
theorem l17Border_no (base q : Nat) (st : Int) (m : Nat) (b : ByteArray) (w : World) (h : Bk w base q st m) (hb : b.size ≤ maxLen) (hs : st = 0 ∨ (3 ≤ st ∧ st ≤ 60)) (hn : st = 0 ∨ okBord st b = false) : Calls Tryd.prog 42 #[.pointer (some ⟨q, 0, none⟩), .string b] w (NoPost base w) := by
  have hlt := h.lt
  cases h1 : okTwo 98 102 8 b
  · go_enter Tryd.func42, Tryd.ntmps42
    go_wp2_with fail
    refine (l11Ok_eq _ false _ hb h1).mono ?_
    rintro e w' ⟨rfl, hb1⟩
    go_wp2_with fail
    go_ret
    exact ⟨_, rfl, by decide, hb1⟩
  by_cases h0 : st = 0
  · subst h0
    go_enter Tryd.func42, Tryd.ntmps42
    go_wp2_with fail
    refine (l11Ok_eq _ true _ hb h1).mono ?_
    rintro e w' ⟨rfl, hb1⟩
    have k0 := (h.keep hb1).c0
    go_wp2_with fail
    go_ret
    exact ⟨_, rfl, by decide, hb1⟩
  · obtain ⟨s3, s60⟩ := hs.resolve_left h0
    have h2 : inB st ((b.size : Int) + 2) 40 = false := by
      have := hn.resolve_left h0
      unfold okBord at this
      rw [h1] at this
      simpa using this
    have t0 : (st == 0) = false := by simpa using h0
    have hsz := okTwo_size h1
    clear h0 hn hs
    go_enter Tryd.func42, Tryd.ntmps42
    go_wp2_with fail
    refine (l11Ok_eq _ true _ hb h1).mono ?_
    rintro e w' ⟨rfl, hb1⟩
    have hK := h.keep hb1
    have k0 := hK.c0
    have k2 := hK.c2
    go_wp2_with fail
    refine (l11Stakes_eq b st false _ hsz.2 h2).mono ?_
    rintro e w'' ⟨rfl, hb2⟩
    go_wp2_with fail
    go_ret
    exact ⟨_, rfl, by decide, belowT hb2 hb1⟩
theorem l17Border_yes (base q : Nat) (st : Int) (m : Nat) (b : ByteArray) (w : World) (h : Bk w base q st m) (hb : b.size ≤ maxLen) (hbw : base ≤ w.heap.size) (s3 : 3 ≤ st) (s60 : st ≤ 60) (hn : okBord st b = true) : Calls Tryd.prog 42 #[.pointer (some ⟨q, 0, none⟩), .string b] w (YesB base w) := by
  have hlt := h.lt
  obtain ⟨h1, h2⟩ : okTwo 98 102 8 b = true ∧ inB st ((b.size : Int) + 2) 40 = true := by simpa [okBord] using hn
  have t0 : (st == 0) = false := by rw [beq_eq_false_iff_ne]; omega
  have hsz := okTwo_size h1
  clear hn
  go_enter Tryd.func42, Tryd.ntmps42
  go_wp2_with fail
  refine (l11Ok_eq _ true _ hb h1).mono ?_
  rintro e w' ⟨rfl, hb1⟩
  have hK := h.keep hb1
  have k0 := hK.c0
  have k2 := hK.c2
  go_wp2_with fail
  refine (l11Stakes_eq b st true _ hsz.2 h2).mono ?_
  rintro e w'' ⟨rfl, hb2⟩
  have hK2 := hK.keep hb2
  have c2 := hK2.c2
  have z2 := hK2.z2
  go_wp2_with fail
  go_ret
  exact ⟨rfl, Below.setCell ((belowT hb2 hb1).mono hbw) h.lo _⟩
end Go.Proofs.YtopefgahppfkcaaDoor
