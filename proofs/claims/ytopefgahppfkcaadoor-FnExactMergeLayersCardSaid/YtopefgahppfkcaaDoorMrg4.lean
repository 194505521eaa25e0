/- MergeLayers: the contracts. -/
import Derived.Test.YtopefgahppfkcaaDoorMrg3
namespace Go.Proofs.YtopefgahppfkcaaDoor
open Go.RowKit
set_option linter.unusedVariables false
set_option linter.unusedSimpArgs false

def mgV (st : Int) (cs : List R2) (b : ByteArray) : Int × List R2 × ByteArray × Int := if okBas st cs b then (if okBas st (mrg cs) b then (st, mrg cs, b, 0) else (0, [], ⟨#[]⟩, 5)) else (0, [], ⟨#[]⟩, 1)
def MgPost (st : Int) (cs : List R2) (b : ByteArray) (w : World) (e : Ending) (w' : World) : Prop :=
  ∃ C m c, e = .returned (.tuple #[bval (mgV st cs b).1 C m c (mgV st cs b).2.2.1, .int .i64 (mgV st cs b).2.2.2]) ∧ OwnR w' w.heap.size (.slice C m c) m (mgV st cs b).2.1 ∧ Below w.heap.size w w'
theorem ownR_nil (w : World) (base : Nat) : OwnR w base (.slice none 0 0) 0 [] := ⟨[], World.ownsRow_nil _ _ _ _, rfl, fun j y hj => absurd hj (by omega)⟩
theorem build_bas0 (w : World) : (Instr.build 35 #[]).run Tryd.prog w = .ok (.agg #[.int .i64 0, .slice none 0 0, .string ⟨#[]⟩]) w := run_build w 35 _ _ (by kernel_rfl)
theorem build_bas (st : Int) (D : Option Addr) (m d : Nat) (b : ByteArray) (w : World) : (Instr.build 35 #[(0, .int .i64 st), (1, .slice D m d), (2, .string b)]).run Tryd.prog w = .ok (.agg #[.int .i64 st, .slice D m d, .string b]) w := run_build w 35 _ _ (by kernel_rfl)
/-- Block q may be written: three cells. -/
structure R3c (w : World) (q : Nat) : Prop where
  c0 : ∃ v, w.cell? ⟨q, 0, none⟩ = some v
  c1 : ∃ v, w.cell? ⟨q, 1, none⟩ = some v
  c2 : ∃ v, w.cell? ⟨q, 2, none⟩ = some v
  z0 : w.frozen? ⟨q, 0, none⟩ = false
  z1 : w.frozen? ⟨q, 1, none⟩ = false
  z2 : w.frozen? ⟨q, 2, none⟩ = false
theorem R3c.lt {w : World} {q : Nat} (h : R3c w q) : q < w.heap.size := by obtain ⟨v, h⟩ := h.c0; exact World.block_lt_of_cell? _ _ h
theorem R3c.keep {w w' : World} {q : Nat} (h : R3c w q) (hb : Below w.heap.size w w') : R3c w' q := by
  have hlt := h.lt
  obtain ⟨v0, h0⟩ := h.c0
  obtain ⟨v1, h1⟩ := h.c1
  obtain ⟨v2, h2⟩ := h.c2
  exact ⟨⟨_, keepc hb h0⟩, ⟨_, keepc hb h1⟩, ⟨_, keepc hb h2⟩, (hb.frozen (p := ⟨q, 0, none⟩) hlt).trans h.z0, (hb.frozen (p := ⟨q, 1, none⟩) hlt).trans h.z1, (hb.frozen (p := ⟨q, 2, none⟩) hlt).trans h.z2⟩
theorem boxM (w : World) (s1 a1 b1 : Value) : ∃ W, (w.alloc (.cells #[s1, a1, b1] 35)).alloc (.cells #[.int .i64 0, .slice none 0 0, .string ⟨#[]⟩] 35) = W ∧ C3 W w.heap.size s1 a1 b1 ∧ R3c W (w.heap.size + 1) ∧ Below w.heap.size w W := by
  obtain ⟨W, hW, h1, h2, h3⟩ := boxes2 w s1 a1 b1 (.int .i64 0) (.slice none 0 0) (.string ⟨#[]⟩) 35
  refine ⟨W, hW, h1, ⟨⟨_, h2.c0⟩, ⟨_, h2.c1⟩, ⟨_, h2.c2⟩, ?_, ?_, ?_⟩, h3⟩ <;> (rw [← hW]; simp)
theorem R3c.wrote {w : World} {q : Nat} (h : R3c w q) (v0 v1 v2 : Value) : C3 (((w.setCell ⟨q, 0, none⟩ v0).setCell ⟨q, 1, none⟩ v1).setCell ⟨q, 2, none⟩ v2) q v0 v1 v2 := by
  obtain ⟨u0, h0⟩ := h.c0
  obtain ⟨u1, h1⟩ := h.c1
  obtain ⟨u2, h2⟩ := h.c2
  have a0 : (w.setCell ⟨q, 0, none⟩ v0).cell? ⟨q, 0, none⟩ = some v0 := World.cell?_setCell_same _ _ _ h0
  have a1 : (w.setCell ⟨q, 0, none⟩ v0).cell? ⟨q, 1, none⟩ = some u1 := (World.cell?_setCell_other _ _ _ _ (by simp)).trans h1
  have a2 : (w.setCell ⟨q, 0, none⟩ v0).cell? ⟨q, 2, none⟩ = some u2 := (World.cell?_setCell_other _ _ _ _ (by simp)).trans h2
  have b0 := (World.cell?_setCell_other (w.setCell ⟨q, 0, none⟩ v0) ⟨q, 1, none⟩ ⟨q, 0, none⟩ v1 (by simp)).trans a0
  have b1 : ((w.setCell ⟨q, 0, none⟩ v0).setCell ⟨q, 1, none⟩ v1).cell? ⟨q, 1, none⟩ = some v1 := World.cell?_setCell_same _ _ _ a1
  have b2 : ((w.setCell ⟨q, 0, none⟩ v0).setCell ⟨q, 1, none⟩ v1).cell? ⟨q, 2, none⟩ = some u2 := (World.cell?_setCell_other _ _ _ _ (by simp)).trans a2
  exact ⟨(World.cell?_setCell_other _ _ _ _ (by simp)).trans b0, (World.cell?_setCell_other _ _ _ _ (by simp)).trans b1, World.cell?_setCell_same _ _ _ b2⟩
theorem bm_new (w : World) (st : Int) (b : ByteArray) : ∃ W, (w.alloc (.cells #[] 56)).alloc (.cells #[.int .i64 st, .slice (some ⟨w.heap.size, 0, none⟩) 0 0, .string b] 35) = W ∧ Bm W w.heap.size (w.heap.size + 1) st b 0 [] ∧ Below w.heap.size w W := by
  refine ⟨_, rfl, ⟨by go_cell, ⟨some ⟨w.heap.size, 0, none⟩, 0, by go_cell, ⟨[], ?_, rfl, fun j y hj => absurd hj (by omega)⟩, by simp [blk]⟩, by go_cell, by simp, by omega⟩, ?_⟩
  · exact (World.ownsRow_made _ _ _ (Nat.le_refl _) (by unfold maxLen; omega) (by simp)).alloc _
  · exact ((Below.refl w.heap.size w).alloc (Nat.le_refl _) _).alloc (by simp) _
theorem OwnR.mono {w : World} {base base' : Nat} {v : Value} {n : Nat} {cs : List R2} (h : OwnR w base v n cs) (hb : base' ≤ base) : OwnR w base' v n cs ∧ ∀ g, v.ownBlock = some g → base ≤ g := by
  obtain ⟨xs, h, hl, hr⟩ := h
  refine ⟨⟨xs, ?_, hl, hr⟩, fun g hg => (World.ownsRow.lt h g hg).1⟩
  rcases h.2 with l | ⟨g, cap, cur, hv, hg, rest⟩
  · exact ⟨h.1, .inl l⟩
  · exact ⟨h.1, .inr ⟨g, cap, cur, hv, Nat.le_trans hb hg, rest⟩⟩
theorem ownR_set3 {w : World} {base base' q : Nat} {v : Value} {n : Nat} {cs : List R2} (h : OwnR w base' v n cs ∧ ∀ g, v.ownBlock = some g → base ≤ g) (hq : q < base) (v0 v1 v2 : Value) : OwnR (((w.setCell ⟨q, 0, none⟩ v0).setCell ⟨q, 1, none⟩ v1).setCell ⟨q, 2, none⟩ v2) base' v n cs := by
  have hne : v.ownBlock = none ∨ v.ownBlock ≠ some q := by
    right; intro e; have := h.2 q e; omega
  exact ((h.1.kept (growS w q 0 v0) hne).kept (growS _ q 1 v1) hne).kept (growS _ q 2 v2) hne
theorem okLay_size {st : Int} {cs : List R2} {b : ByteArray} (h : okBas st cs b = true) {x : R2} (hx : x ∈ cs) : x.1.size ≤ 12 := by
  unfold okBas at h
  by_cases h0 : st = 0
  · rw [if_pos h0] at h
    have : cs = [] := by rw [Bool.and_eq_true, decide_eq_true_iff] at h; exact h.1
    subst this
    simp at hx
  · rw [if_neg h0, Bool.and_eq_true, Bool.and_eq_true, Bool.and_eq_true, List.all_eq_true, decide_eq_true_iff] at h
    obtain ⟨_, h1, h2, _⟩ := h
    have := h1 x hx
    unfold okLay at this
    rw [Bool.and_eq_true] at this
    exact (okTwo_size this.1).2
set_option maxRecDepth 100000 in
set_option maxHeartbeats 4000000 in
theorem implMerge_any (st : Int) (A : Option Addr) (n c : Nat) (b : ByteArray) (cs : List R2) (w : World) (h : Recs w A n cs) (hs : ∀ x ∈ cs, x.1.size ≤ maxLen) (hn : n ≤ 1048576) (hb : b.size ≤ maxLen) : Calls Tryd.prog 21 #[bval st A n c b] w (MgPost st cs b w) := by
  obtain ⟨i0, hi0, hz0, hz1, hz2⟩ := info_parts info_L
  have HS := Box0.mk hs
  clear hs
  have HN := Lib.hid h.1
  have hbz := build_bas0
  cases hv : okBas st cs b
  · have hm : mgV st cs b = (0, [], ⟨#[]⟩, 1) := by unfold mgV; rw [hv]; rfl
    unfold MgPost
    rw [hm]
    clear hm
    go_enter Tryd.func21, Tryd.ntmps21
    go_wp2_with fail
    obtain ⟨W, hW, hX, hR, hB⟩ := boxM w (.int .i64 st) (.slice A n c) (.string b)
    rw [hW]
    clear hW
    refine (implValidBasket_eq st A n c b cs false _ (h.keep hB) HS.out hn hb hv).mono ?_
    rintro e w1 ⟨rfl, hb1⟩
    replace hR := hR.keep hb1
    replace hB := belowT hb1 hB
    obtain ⟨⟨u0, r0⟩, ⟨u1, r1⟩, ⟨u2, r2⟩, z0, z1, z2⟩ := id hR
    go_wp2_with fail
    obtain ⟨q1, q2, q3⟩ := hR.wrote (.int .i64 0) (.slice none 0 0) (.string ⟨#[]⟩)
    refine bodyPost_ret (v := .tuple #[bval 0 none 0 0 ⟨#[]⟩, .int .i64 1]) (by simp [results, Tryd.results21, go_sem, q1, q2, q3]; try rfl) rfl ?_
    exact ⟨none, 0, 0, rfl, ownR_nil _ _, ((hB.setCell (by simp) _).setCell (by simp) _).setCell (by simp) _⟩
  · have HL := Box0.mk (okBas_lays hv)
    have hn40 : n ≤ 40 := by rw [← HN.out]; exact HL.out.len
    go_enter Tryd.func21, Tryd.ntmps21
    go_wp2_with fail
    obtain ⟨W, hW, hX, hR, hB⟩ := boxM w (.int .i64 st) (.slice A n c) (.string b)
    rw [hW]
    clear hW
    refine (implValidBasket_eq st A n c b cs true _ (h.keep hB) HS.out hn hb hv).mono ?_
    rintro e w1 ⟨rfl, hb1⟩
    have hRq := hR.lt
    replace hR := hR.keep hb1
    replace hX := hX.keep hb1
    have hA := (h.keep hB).keep hb1
    replace hB := belowT hb1 hB
    have hs1 := hb1.size
    clear hb1 h
    obtain ⟨x0, x1, x2⟩ := id hX
    obtain ⟨W2, hW2, hM, hB2⟩ := bm_new w1 st b
    obtain ⟨y0, y1, y2⟩ := hX.alloc (.cells #[] 56)
    obtain ⟨v0, v1, v2⟩ := hX.keep hB2
    have hbu := build_bas st (some ⟨w1.heap.size, 0, none⟩) 0 0 b
    go_wp2_with fail
    clear y0 y1 y2 v0 v1 v2 x0 x1 x2
    generalize hq : w1.heap.size + 1 = q at *
    have hM0 := BoxD.mk hM
    clear hM
    go_loopw [21] (fun i wr => ∃ k m : Nat, k ≤ n ∧ i = .int .i64 k ∧ BoxD (Bm wr w1.heap.size q st b m (mrg (cs.take k))) ∧ BoxD (Mbd (mrg (cs.take k)) k) ∧ Below w1.heap.size w1 wr) (fun i _ => n - (intOf i).toNat)
    case atStart => exact ⟨0, 0, Nat.zero_le _, rfl, by simpa [mrg] using hM0, ⟨⟨by simp [mrg], fun j z hz => by simp [mrg] at hz⟩⟩, hB2⟩
    case round =>
      clear hM0 hB2 hW2
      obtain ⟨k, m, hk, rfl, hM, hD, hBw⟩ := hrel
      have hbs := hBw.size
      have hql := hM.out.lt
      by_cases hlt : k < n
      · obtain ⟨a, off, x, rfl, hblt, hx, hc0, hc1⟩ := (hA.keep hBw).at_ hlt
        have hr := HL.out.rng x (List.mem_of_getElem? hx)
        have hsz := okLay_size hv (List.mem_of_getElem? hx)
        have hSt := BoxD.mk (mrg_snoc hx)
        have k0 : (0 : Int) ≤ (k : Int) := by omega
        have k1 : (k : Int) < (n : Int) := by omega
        clear hx
        have hal := (Below.refl wr.heap.size wr).alloc (Nat.le_refl _) (.cells #[.string x.1, .int .i64 x.2] 56)
        have hM2 := hM.out.keep hal
        have l0 : (wr.alloc (.cells #[.string x.1, .int .i64 x.2] 56)).cell? ⟨wr.heap.size, 0, none⟩ = some (.string x.1) := by go_cell
        have l1 : (wr.alloc (.cells #[.string x.1, .int .i64 x.2] 56)).cell? ⟨wr.heap.size, 1, none⟩ = some (.int .i64 x.2) := by go_cell
        replace hBw := hBw.alloc hBw.size (.cells #[.string x.1, .int .i64 x.2] 56)
        clear hM hal
        generalize hP : wr.heap.size = P at *
        generalize hw2 : wr.alloc (.cells #[.string x.1, .int .i64 x.2] 56) = w2 at *
        have hPl : P < w2.heap.size := World.block_lt_of_cell? _ _ l0
        obtain ⟨C, c', b1, ho, hne⟩ := hM2.c1
        have z1 := hM2.z1
        have hml := ho.recs.1
        have hm40 : m ≤ 40 := by have := hD.out.len; omega
        rcases Nat.eq_zero_or_pos m with hm0 | hm0
        · have hacc : mrg (cs.take k) = [] := List.eq_nil_of_length_eq_zero (by omega)
          have hNew := BoxD.mk (show mrg (cs.take (k + 1)) = mrg (cs.take k) ++ [x] by rw [hSt.out, hacc]; rfl)
          have kp : decide (0 < m) = false := by simp; omega
          have kq : (m : Int) ≤ 0 := by omega
          have ho' := BoxD.mk ho
          clear ho hacc hm0
          go_wp2_with fail
          go_quiet (fail)
          · skip
            have hbd := below_drewN (Below.refl w2.heap.size w2) nq
            have hM3 := hM2.keep hbd
            have b3 := keepc hbd b1
            have ho3 := OwnR.kept ho'.out (grown_below hbd none) (by first | (simp [Value.ownBlock]; done) | (cases hv : (Value.slice C m c').ownBlock <;> simp))
            have l03 := keepc hbd l0
            have l13 := keepc hbd l1
            have hBw3 := below_drewN hBw nq
            generalize w2.drewN nq = w3 at *
            have hal := (Below.refl w3.heap.size w3).alloc (Nat.le_refl _) (.cells #[.string x.1, .int .i64 x.2] 56)
            have hM4 := hM3.keep hal
            have b4 := keepc hal b3
            have hB4 := hBw3.alloc hBw3.size (.cells #[.string x.1, .int .i64 x.2] 56)
            obtain ⟨xs3, hx3, hxl3, hxr3⟩ := ho3
            have HR := BoxD.mk hxr3
            have hlw3 : w1.heap.size ≤ w3.heap.size := hBw3.size
            have hq4 := hM4.lt
            clear hxr3
            go_wp2_with (at_builtin; refine wpList_append_lies _ rfl _ _ 33 rfl (w1.heap.size) 56 i0 (.agg #[.string ⟨#[]⟩, .int .i64 0]) 2 24 Tryd.underlying33 hi0 hz0 hz1 hz2 rfl (by decide) _ _ _ rfl (hx3.alloc _) ⟨w3.heap.size, 0, none⟩ 1 1 [.string x.1, .int .i64 x.2] rfl rfl (fun j u hj => cell_two_new w3 _ _ _ _ rfl j u hj) (one_two _ _) (by decide) (by unfold maxLen; omega) (by omega) (by simp; omega) (w3.heap.size + 1) (by simp) ?_; intro gn cap w4 hown1 hgrow1 hat1 hlt1; obtain ⟨kk, ff, hBk⟩ := bm_app (C := C) (c := c') hq4 hM4.c0 b4 hM4.c2 hM4.z1 hM4.lo hne (ownR_snoc (x := x) hown1 hml HR.out) hgrow1 (by have h9 : (Value.slice C m c').ownBlock = some gn ∨ gn = w3.heap.size + 1 := hat1; rw [World.size_alloc]; exact h9))
            replace hgrow1 : (w3.alloc _).grownBy w4 (Value.slice C m c').ownBlock := hgrow1
            have hBf := (hB4.grown hgrow1 (by simp; omega) (fun g e => (World.ownsRow.lt hx3 g e).1)).setCell (p := ⟨q, 1, none⟩) hM3.lo (.slice (some ⟨gn, 0, none⟩) (m + 1) cap)
            go_roundw
            case rel => exact ⟨k + 1, m + 1, by omega, by go_num, ⟨by rw [hNew.out]; exact hBk⟩, ⟨by rw [hNew.out]; exact hD.out.more hr hsz⟩, hBf⟩
            case measure => simp [intOf]; omega
        · obtain ⟨g, rfl⟩ : ∃ g, C = some ⟨g, 0, none⟩ := by
            obtain ⟨xs, h3, _, _⟩ := ho
            rcases h3.2 with ⟨_, h2⟩ | ⟨g, cap, cur, hv, _⟩
            · omega
            · exact ⟨g, by simp at hv; exact hv.1⟩
          obtain ⟨g', off', y, hAy, hgl, hy, ey0, ey1⟩ := ho.recs.at_ (show m - 1 < m by omega)
          injection hAy with hAy
          injection hAy with hA1 hA2
          subst hA1 hA2
          rw [Nat.zero_add] at ey0 ey1
          have kp : decide (0 < m) = true := by simp; omega
          have kq : (1 : Int) ≤ (m : Int) := by omega
          have k3 : (0 : Int) ≤ (m : Int) - 1 := by omega
          have k4 : (m : Int) - 1 < (m : Int) := by omega
          have k5 : ((m : Int) - 1).toNat = m - 1 := by omega
          have hyb := hD.out.at_ _ _ hy
          have ho' := BoxD.mk ho
          obtain ⟨xs, hxs, hxl, hxr⟩ := ho
          by_cases hyx : y.1 = x.1
          · have ts := eqS' hyx
            have wr1 : IntKind.i64.wrap (y.2 + x.2) = y.2 + x.2 := IntWalk.i64_in _ (by omega)
            go_wp2_with fail
            go_quiet (fail)
            go_wp2_with fail
            have fz := World.ownsRow.frozenAt hxs ((m - 1) * 2 + 1)
            go_region
            have hbd := below_drewN (Below.refl w2.heap.size w2) (nq + 1)
            have hM3 := hM2.keep hbd
            have b3 := keepc hbd b1
            have ho3 := OwnR.kept ho'.out (grown_below hbd none) (by simp [Value.ownBlock])
            have hgb := (World.ownsRow.lt hxs g (by simp [Value.ownBlock])).1
            have hB3 := ((below_drewN hBw (nq + 1)).setCell (p := ⟨g, (m - 1) * 2 + 1, none⟩) hgb (.int .i64 (y.2 + x.2)))
            have hF := bm_poke (v := y.2 + x.2) hm0 hM3.c0 b3 hM3.c2 hM3.z1 hM3.lo (by simpa [blk] using hne) ho3 hy
            go_wp2
            go_roundw
            case rel => exact ⟨k + 1, m, by omega, by go_num, ⟨by rw [hSt.out, stepM_same hml hy hyx]; exact hF⟩, ⟨by rw [hSt.out, stepM_same hml hy hyx]; exact hD.out.same hml hy hr⟩, hB3⟩
            case measure => simp [intOf]; omega
          · have ts := neS' hyx
            have hNew := BoxD.mk (show mrg (cs.take (k + 1)) = mrg (cs.take k) ++ [x] by rw [hSt.out, stepM_more hml hy hyx])
            clear hxs hxl hxr
            go_wp2_with fail
            go_quiet (fail)
            have hbd := below_drewN (Below.refl w2.heap.size w2) nq
            have hM3 := hM2.keep hbd
            have b3 := keepc hbd b1
            have ho3 := OwnR.kept ho'.out (grown_below hbd none) (by first | (simp [Value.ownBlock]; done) | (cases hv : (Value.slice C m c').ownBlock <;> simp))
            have l03 := keepc hbd l0
            have l13 := keepc hbd l1
            have hBw3 := below_drewN hBw nq
            generalize w2.drewN nq = w3 at *
            have hal := (Below.refl w3.heap.size w3).alloc (Nat.le_refl _) (.cells #[.string x.1, .int .i64 x.2] 56)
            have hM4 := hM3.keep hal
            have b4 := keepc hal b3
            have hB4 := hBw3.alloc hBw3.size (.cells #[.string x.1, .int .i64 x.2] 56)
            obtain ⟨xs3, hx3, hxl3, hxr3⟩ := ho3
            have HR := BoxD.mk hxr3
            have hlw3 : w1.heap.size ≤ w3.heap.size := hBw3.size
            have hq4 := hM4.lt
            clear hxr3
            go_wp2_with (at_builtin; refine wpList_append_lies _ rfl _ _ 33 rfl (w1.heap.size) 56 i0 (.agg #[.string ⟨#[]⟩, .int .i64 0]) 2 24 Tryd.underlying33 hi0 hz0 hz1 hz2 rfl (by decide) _ _ _ rfl (hx3.alloc _) ⟨w3.heap.size, 0, none⟩ 1 1 [.string x.1, .int .i64 x.2] rfl rfl (fun j u hj => cell_two_new w3 _ _ _ _ rfl j u hj) (one_two _ _) (by decide) (by unfold maxLen; omega) (by omega) (by simp; omega) (w3.heap.size + 1) (by simp) ?_; intro gn cap w4 hown1 hgrow1 hat1 hlt1; obtain ⟨kk, ff, hBk⟩ := bm_app (C := (some ⟨g, 0, none⟩ : Option Addr)) (c := c') hq4 hM4.c0 b4 hM4.c2 hM4.z1 hM4.lo hne (ownR_snoc (x := x) hown1 hml HR.out) hgrow1 (by have h9 : (Value.slice (some ⟨g, 0, none⟩ : Option Addr) m c').ownBlock = some gn ∨ gn = w3.heap.size + 1 := hat1; rw [World.size_alloc]; exact h9))
            replace hgrow1 : (w3.alloc _).grownBy w4 (Value.slice (some ⟨g, 0, none⟩ : Option Addr) m c').ownBlock := hgrow1
            have hBf := (hB4.grown hgrow1 (by simp; omega) (fun g e => (World.ownsRow.lt hx3 g e).1)).setCell (p := ⟨q, 1, none⟩) hM3.lo (.slice (some ⟨gn, 0, none⟩) (m + 1) cap)
            go_roundw
            case rel => exact ⟨k + 1, m + 1, by omega, by go_num, ⟨by rw [hNew.out]; exact hBk⟩, ⟨by rw [hNew.out]; exact hD.out.more hr hsz⟩, hBf⟩
            case measure => simp [intOf]; omega
      · obtain rfl : k = n := by omega
        have hfull : cs.take k = cs := List.take_of_length_le (by rw [HN.out]; omega)
        rw [hfull] at hM hD
        obtain ⟨C, c', b1, ho, hne⟩ := hM.out.c1
        have b0 := hM.out.c0
        have b2 := hM.out.c2
        have hml := ho.recs.1
        have hm40 : m ≤ 1048576 := by have := hD.out.len; omega
        have hsz2 := BoxD.mk (fun z (hz : z ∈ mrg cs) => by
          obtain ⟨j, hj⟩ := List.getElem?_of_mem hz
          have := (hD.out.at_ j z hj).2
          show z.1.size ≤ maxLen
          unfold maxLen; omega)
        have hRw := hR.keep hBw
        have hBt := belowT hBw hB
        cases hv2 : okBas st (mrg cs) b
        · have hm := BoxD.mk (show mgV st cs b = (0, [], ⟨#[]⟩, 5) by unfold mgV; rw [hv, hv2]; rfl)
          go_wp2_with fail
          refine (implValidBasket_eq st C m c' b (mrg cs) false _ ho.recs hsz2.out hm40 hb hv2).mono ?_
          rintro e w5 ⟨rfl, hb5⟩
          have hR5 := hRw.keep hb5
          have hB5 := belowT hb5 hBt
          obtain ⟨⟨u0, r0⟩, ⟨u1, r1⟩, ⟨u2, r2⟩, z0, z1, z2⟩ := id hR5
          go_wp2_with fail
          obtain ⟨q1, q2, q3⟩ := hR5.wrote (.int .i64 0) (.slice none 0 0) (.string ⟨#[]⟩)
          refine bodyPost_ret (v := .tuple #[bval 0 none 0 0 ⟨#[]⟩, .int .i64 5]) (by simp [results, Tryd.results21, go_sem, q1, q2, q3]; try rfl) rfl ?_
          unfold MgPost
          rw [hm.out]
          exact ⟨none, 0, 0, rfl, ownR_nil _ _, ((hB5.setCell (by simp) _).setCell (by simp) _).setCell (by simp) _⟩
        · have hm := BoxD.mk (show mgV st cs b = (st, mrg cs, b, 0) by unfold mgV; rw [hv, hv2]; rfl)
          go_wp2_with fail
          refine (implValidBasket_eq st C m c' b (mrg cs) true _ ho.recs hsz2.out hm40 hb hv2).mono ?_
          rintro e w5 ⟨rfl, hb5⟩
          have hR5 := hRw.keep hb5
          have hB5 := belowT hb5 hBt
          have a0 := keepc hb5 b0
          have a1 := keepc hb5 b1
          have a2 := keepc hb5 b2
          have ho5 := OwnR.kept ho (grown_below hb5 none) (by cases hv : (Value.slice C m c').ownBlock <;> simp)
          obtain ⟨⟨u0, r0⟩, ⟨u1, r1⟩, ⟨u2, r2⟩, z0, z1, z2⟩ := id hR5
          go_wp2_with fail
          obtain ⟨q1, q2, q3⟩ := hR5.wrote (.int .i64 st) (.slice C m c') (.string b)
          refine bodyPost_ret (v := .tuple #[bval st C m c' b, .int .i64 0]) (by simp [results, Tryd.results21, go_sem, q1, q2, q3]; try rfl) rfl ?_
          unfold MgPost
          rw [hm.out]
          exact ⟨C, m, c', rfl, ownR_set3 (ho5.mono (by omega)) (by omega) _ _ _, ((hB5.setCell (by simp) _).setCell (by simp) _).setCell (by simp) _⟩
end Go.Proofs.YtopefgahppfkcaaDoor
