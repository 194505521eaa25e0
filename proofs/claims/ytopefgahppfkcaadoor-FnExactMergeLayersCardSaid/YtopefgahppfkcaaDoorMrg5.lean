/- MergeLayers: the reference's side. -/
import Derived.Test.YtopefgahppfkcaaDoorMrg4
namespace Go.Proofs.YtopefgahppfkcaaDoor
open Go.RowKit
set_option linter.unusedVariables false
set_option linter.unusedSimpArgs false

set_option maxRecDepth 100000 in
set_option maxHeartbeats 4000000 in
theorem specMerge_any (st : Int) (A : Option Addr) (n c : Nat) (b : ByteArray) (cs : List R2) (w : World) (h : Recs w A n cs) (hs : ∀ x ∈ cs, x.1.size ≤ maxLen) (hn : n ≤ 1048576) (hb : b.size ≤ maxLen) : Calls Tryd.prog 20 #[bval st A n c b] w (MgPost st cs b w) := by
  obtain ⟨i0, hi0, hz0, hz1, hz2⟩ := info_parts info_L
  have HS := Box0.mk hs
  clear hs
  have HN := Lib.hid h.1
  have hbz := build_bas0
  cases hv : okBas st cs b
  · have hm : mgV st cs b = (0, [], ⟨#[]⟩, 1) := by unfold mgV; rw [hv]; rfl
    unfold MgPost
    rw [hm]
    clear hm
    go_enter Tryd.func20, Tryd.ntmps20
    go_wp2_with fail
    obtain ⟨W, hW, hX, hR, hB⟩ := boxM w (.int .i64 st) (.slice A n c) (.string b)
    rw [hW]
    clear hW
    refine (l17Ok_eq _ st A n c b cs false _ hX (h.keep hB) HS.out hn hb hv).mono ?_
    rintro e w1 ⟨rfl, hb1⟩
    replace hR := hR.keep hb1
    replace hB := belowT hb1 hB
    obtain ⟨⟨u0, r0⟩, ⟨u1, r1⟩, ⟨u2, r2⟩, z0, z1, z2⟩ := id hR
    go_wp2_with fail
    obtain ⟨q1, q2, q3⟩ := hR.wrote (.int .i64 0) (.slice none 0 0) (.string ⟨#[]⟩)
    refine bodyPost_ret (v := .tuple #[bval 0 none 0 0 ⟨#[]⟩, .int .i64 1]) (by simp [results, Tryd.results20, go_sem, q1, q2, q3]; try rfl) rfl ?_
    exact ⟨none, 0, 0, rfl, ownR_nil _ _, ((hB.setCell (by simp) _).setCell (by simp) _).setCell (by simp) _⟩
  · have HL := Box0.mk (okBas_lays hv)
    have hn40 : n ≤ 40 := by rw [← HN.out]; exact HL.out.len
    go_enter Tryd.func20, Tryd.ntmps20
    go_wp2_with fail
    obtain ⟨W, hW, hX, hR, hB⟩ := boxM w (.int .i64 st) (.slice A n c) (.string b)
    rw [hW]
    clear hW
    refine (l17Ok_eq _ st A n c b cs true _ hX (h.keep hB) HS.out hn hb hv).mono ?_
    rintro e w1 ⟨rfl, hb1⟩
    have hRq := hR.lt
    replace hR := hR.keep hb1
    replace hX := hX.keep hb1
    have hA := (h.keep hB).keep hb1
    replace hB := belowT hb1 hB
    have hs1 := hb1.size
    clear hb1 h
    obtain ⟨x0, x1, x2⟩ := id hX
    obtain ⟨W2, hW2, hM, hB2⟩ := bm_new w1 st b
    obtain ⟨y0, y1, y2⟩ := hX.alloc (.cells #[] 56)
    obtain ⟨v0, v1, v2⟩ := hX.keep hB2
    have hbu := build_bas st (some ⟨w1.heap.size, 0, none⟩) 0 0 b
    go_wp2_with fail
    clear y0 y1 y2 v0 v1 v2 x0 x1 x2
    generalize hq : w1.heap.size + 1 = q at *
    have hM0 := BoxD.mk hM
    clear hM
    go_loopw [5] (fun i wr => ∃ k m : Nat, k ≤ n ∧ i = .int .i64 k ∧ BoxD (Bm wr w1.heap.size q st b m (mrg (cs.take k))) ∧ BoxD (Mbd (mrg (cs.take k)) k) ∧ Below w1.heap.size w1 wr) (fun i _ => n - (intOf i).toNat)
    case atStart => exact ⟨0, 0, Nat.zero_le _, rfl, by simpa [mrg] using hM0, ⟨⟨by simp [mrg], fun j z hz => by simp [mrg] at hz⟩⟩, hB2⟩
    case round =>
      clear hM0 hB2 hW2
      obtain ⟨k, m, hk, rfl, hM, hD, hBw⟩ := hrel
      have hbs := hBw.size
      have hql := hM.out.lt
      by_cases hlt : k < n
      · obtain ⟨a, off, x, rfl, hblt, hx, hc0, hc1⟩ := (hA.keep hBw).at_ hlt
        have hr := HL.out.rng x (List.mem_of_getElem? hx)
        have hsz := okLay_size hv (List.mem_of_getElem? hx)
        have hSt := BoxD.mk (mrg_snoc hx)
        have hXk := BoxD.mk hx
        have k0 : (0 : Int) ≤ (k : Int) := by omega
        have k1 : (k : Int) < (n : Int) := by omega
        clear hx
        have hM2 := hM.out
        clear hM
        have hXr := hX.keep hBw
        have v1 := hXr.c1
        generalize hw2 : wr = w2 at *
        clear hw2
        obtain ⟨C, c', b1, ho, hne⟩ := hM2.c1
        have z1 := hM2.z1
        have hml := ho.recs.1
        have hm40 : m ≤ 40 := by have := hD.out.len; omega
        rcases Nat.eq_zero_or_pos m with hm0 | hm0
        · have hacc : mrg (cs.take k) = [] := List.eq_nil_of_length_eq_zero (by omega)
          have hNew := BoxD.mk (show mrg (cs.take (k + 1)) = mrg (cs.take k) ++ [x] by rw [hSt.out, hacc]; rfl)
          have kp : decide (0 < m) = false := by simp; omega
          have kq : (m : Int) ≤ 0 := by omega
          have ho' := BoxD.mk ho
          clear ho hacc hm0
          go_wp2_with fail
          go_quiet (fail)
          · skip
            have hbd := below_drewN (Below.refl w2.heap.size w2) nq
            have hM3 := hM2.keep hbd
            have b3 := keepc hbd b1
            have hBw3' := below_drewN hBw nq
            have ho3 := OwnR.kept ho'.out (grown_below hbd none) (by first | (simp [Value.ownBlock]; done) | (cases hv : (Value.slice C m c').ownBlock <;> simp))
            have hA3 := (hA.keep hBw3')
            obtain ⟨a3, off3, x3, hA3e, _, hx3', l03, l13⟩ := hA3.at_ hlt
            injection hA3e with hA3e
            injection hA3e with e3 e4
            subst e3 e4
            obtain rfl : x = x3 := by rw [hXk.out] at hx3'; injection hx3' with e
            have v13 := (hX.keep hBw3').c1
            have hBw3 := below_drewN hBw nq
            generalize w2.drewN nq = w3 at *
            have hal := (Below.refl w3.heap.size w3).alloc (Nat.le_refl _) (.cells #[.string x.1, .int .i64 x.2] 56)
            have hM4 := hM3.keep hal
            have b4 := keepc hal b3
            have hB4 := hBw3.alloc hBw3.size (.cells #[.string x.1, .int .i64 x.2] 56)
            obtain ⟨xs3, hx3, hxl3, hxr3⟩ := ho3
            have HR := BoxD.mk hxr3
            have hlw3 : w1.heap.size ≤ w3.heap.size := hBw3.size
            have hq4 := hM4.lt
            clear hxr3
            have HO := Box0.mk hx3
            have HK := Box0.mk hM4
            have J1 := Box0.mk b4
            have HN' := Box0.mk hne
            have HB4 := Box0.mk hB4
            have hmx : m + 1 ≤ maxLen := by unfold maxLen; omega
            have l04 := keepc hal l03
            have l14 := keepc hal l13
            have v14 := keepc hal v13
            have z14 := hM4.z1
            have hq3 := hM3.lt
            have ha3 : a < w3.heap.size := World.block_lt_of_cell? _ _ l03
            have hw3 : w.heap.size < w3.heap.size := World.block_lt_of_cell? _ _ v13
            clear hx3 hM4 hne hB4
            go_wp2_with fail
            go_region_law ((refine step_append_lies _ (by rfl) _ _ 33 (by rfl) w1.heap.size 56 i0 (.agg #[.string ⟨#[]⟩, .int .i64 0]) 2 24 Tryd.underlying33 hi0 hz0 hz1 hz2 rfl (by decide) (.slice C m c') m xs3 (by rfl) (by first | exact HO.out.alloc _ | exact World.ownsRow.drew (HO.out.alloc _)) ⟨w3.heap.size, 0, none⟩ 1 1 [.string x.1, .int .i64 x.2] (by rfl) (by rfl) (fun j u hj => cell_two_new w3 _ _ _ _ rfl j u hj) (one_two _ _) (by decide) (by omega) (by omega) (by simp; omega) (w3.heap.size + 1) (by simp) ?_; intro gn cap w4 hown1 hgrow1 hat1 hlt1; obtain ⟨kk, ff, hBk⟩ := bm_app (C := C) (c := c') (by first | exact HK.out.lt | (simp; omega)) HK.out.c0 J1.out HK.out.c2 HK.out.z1 HK.out.lo HN'.out (ownR_snoc (x := x) hown1 hml HR.out) (grownD hgrow1) (by first | exact hat1 | simpa using hat1); have hBb := Box0.mk hBk; clear hBk; have hG := Box0.mk hgrow1))
            all_goals
              have hBf := (HB4.out.grown (grownD hG.out) (by simp; omega) (fun g e => (World.ownsRow.lt HO.out g e).1)).setCell (p := ⟨q, 1, none⟩) hM3.lo (.slice (some ⟨gn, 0, none⟩) (m + 1) cap)
              go_wp2
              go_roundw
              case rel => exact ⟨k + 1, m + 1, by omega, by go_num, ⟨by rw [hNew.out]; exact hBb.out⟩, ⟨by rw [hNew.out]; exact hD.out.more hr hsz⟩, hBf⟩
              case measure => simp [intOf]; omega
        · obtain ⟨g, rfl⟩ : ∃ g, C = some ⟨g, 0, none⟩ := by
            obtain ⟨xs, h3, _, _⟩ := ho
            rcases h3.2 with ⟨_, h2⟩ | ⟨g, cap, cur, hv, _⟩
            · omega
            · exact ⟨g, by simp at hv; exact hv.1⟩
          obtain ⟨g', off', y, hAy, hgl, hy, ey0, ey1⟩ := ho.recs.at_ (show m - 1 < m by omega)
          injection hAy with hAy
          injection hAy with hA1 hA2
          subst hA1 hA2
          rw [Nat.zero_add] at ey0 ey1
          have kp : decide (0 < m) = true := by simp; omega
          have kq : (1 : Int) ≤ (m : Int) := by omega
          have k3 : (0 : Int) ≤ (m : Int) - 1 := by omega
          have k4 : (m : Int) - 1 < (m : Int) := by omega
          have k5 : ((m : Int) - 1).toNat = m - 1 := by omega
          have hyb := hD.out.at_ _ _ hy
          have ho' := BoxD.mk ho
          obtain ⟨xs, hxs, hxl, hxr⟩ := ho
          by_cases hyx : y.1 = x.1
          · have ts := eqS' hyx
            have wr1 : IntKind.i64.wrap (y.2 + x.2) = y.2 + x.2 := IntWalk.i64_in _ (by omega)
            go_wp2_with fail
            go_quiet (fail)
            go_wp2_with fail
            have fz := World.ownsRow.frozenAt hxs ((m - 1) * 2 + 1)
            go_region
            have hbd := below_drewN (Below.refl w2.heap.size w2) (nq + 1)
            have hM3 := hM2.keep hbd
            have b3 := keepc hbd b1
            have ho3 := OwnR.kept ho'.out (grown_below hbd none) (by simp [Value.ownBlock])
            have hgb := (World.ownsRow.lt hxs g (by simp [Value.ownBlock])).1
            have hB3 := ((below_drewN hBw (nq + 1)).setCell (p := ⟨g, (m - 1) * 2 + 1, none⟩) hgb (.int .i64 (y.2 + x.2)))
            have hF := bm_poke (v := y.2 + x.2) hm0 hM3.c0 b3 hM3.c2 hM3.z1 hM3.lo (by simpa [blk] using hne) ho3 hy
            go_wp2
            go_roundw
            case rel => exact ⟨k + 1, m, by omega, by go_num, ⟨by rw [hSt.out, stepM_same hml hy hyx]; exact hF⟩, ⟨by rw [hSt.out, stepM_same hml hy hyx]; exact hD.out.same hml hy hr⟩, hB3⟩
            case measure => simp [intOf]; omega
          · have ts := neS' hyx
            have hNew := BoxD.mk (show mrg (cs.take (k + 1)) = mrg (cs.take k) ++ [x] by rw [hSt.out, stepM_more hml hy hyx])
            clear hxs hxl hxr
            go_wp2_with fail
            go_quiet (fail)
            have hbd := below_drewN (Below.refl w2.heap.size w2) nq
            have hM3 := hM2.keep hbd
            have b3 := keepc hbd b1
            have hBw3' := below_drewN hBw nq
            have ho3 := OwnR.kept ho'.out (grown_below hbd none) (by first | (simp [Value.ownBlock]; done) | (cases hv : (Value.slice C m c').ownBlock <;> simp))
            have hA3 := (hA.keep hBw3')
            obtain ⟨a3, off3, x3, hA3e, _, hx3', l03, l13⟩ := hA3.at_ hlt
            injection hA3e with hA3e
            injection hA3e with e3 e4
            subst e3 e4
            obtain rfl : x = x3 := by rw [hXk.out] at hx3'; injection hx3' with e
            have v13 := (hX.keep hBw3').c1
            have hBw3 := below_drewN hBw nq
            generalize w2.drewN nq = w3 at *
            have hal := (Below.refl w3.heap.size w3).alloc (Nat.le_refl _) (.cells #[.string x.1, .int .i64 x.2] 56)
            have hM4 := hM3.keep hal
            have b4 := keepc hal b3
            have hB4 := hBw3.alloc hBw3.size (.cells #[.string x.1, .int .i64 x.2] 56)
            obtain ⟨xs3, hx3, hxl3, hxr3⟩ := ho3
            have HR := BoxD.mk hxr3
            have hlw3 : w1.heap.size ≤ w3.heap.size := hBw3.size
            have hq4 := hM4.lt
            clear hxr3
            have HO := Box0.mk hx3
            have HK := Box0.mk hM4
            have J1 := Box0.mk b4
            have HN' := Box0.mk hne
            have HB4 := Box0.mk hB4
            have hmx : m + 1 ≤ maxLen := by unfold maxLen; omega
            have l04 := keepc hal l03
            have l14 := keepc hal l13
            have v14 := keepc hal v13
            have z14 := hM4.z1
            have hq3 := hM3.lt
            have ha3 : a < w3.heap.size := World.block_lt_of_cell? _ _ l03
            have hw3 : w.heap.size < w3.heap.size := World.block_lt_of_cell? _ _ v13
            clear hx3 hM4 hne hB4
            go_wp2_with fail
            go_region_law ((refine step_append_lies _ (by rfl) _ _ 33 (by rfl) w1.heap.size 56 i0 (.agg #[.string ⟨#[]⟩, .int .i64 0]) 2 24 Tryd.underlying33 hi0 hz0 hz1 hz2 rfl (by decide) (.slice (some ⟨g, 0, none⟩ : Option Addr) m c') m xs3 (by rfl) (by first | exact HO.out.alloc _ | exact World.ownsRow.drew (HO.out.alloc _)) ⟨w3.heap.size, 0, none⟩ 1 1 [.string x.1, .int .i64 x.2] (by rfl) (by rfl) (fun j u hj => cell_two_new w3 _ _ _ _ rfl j u hj) (one_two _ _) (by decide) (by omega) (by omega) (by simp; omega) (w3.heap.size + 1) (by simp) ?_; intro gn cap w4 hown1 hgrow1 hat1 hlt1; obtain ⟨kk, ff, hBk⟩ := bm_app (C := (some ⟨g, 0, none⟩ : Option Addr)) (c := c') (by first | exact HK.out.lt | (simp; omega)) HK.out.c0 J1.out HK.out.c2 HK.out.z1 HK.out.lo HN'.out (ownR_snoc (x := x) hown1 hml HR.out) (grownD hgrow1) (by first | exact hat1 | simpa using hat1); have hBb := Box0.mk hBk; clear hBk; have hG := Box0.mk hgrow1))
            all_goals
              have hBf := (HB4.out.grown (grownD hG.out) (by simp; omega) (fun g e => (World.ownsRow.lt HO.out g e).1)).setCell (p := ⟨q, 1, none⟩) hM3.lo (.slice (some ⟨gn, 0, none⟩) (m + 1) cap)
              go_wp2
              go_roundw
              case rel => exact ⟨k + 1, m + 1, by omega, by go_num, ⟨by rw [hNew.out]; exact hBb.out⟩, ⟨by rw [hNew.out]; exact hD.out.more hr hsz⟩, hBf⟩
              case measure => simp [intOf]; omega
      · obtain rfl : k = n := by omega
        have v1 := (hX.keep hBw).c1
        have hfull : cs.take k = cs := List.take_of_length_le (by rw [HN.out]; omega)
        rw [hfull] at hM hD
        obtain ⟨C, c', b1, ho, hne⟩ := hM.out.c1
        have b0 := hM.out.c0
        have b2 := hM.out.c2
        have hml := ho.recs.1
        have hm40 : m ≤ 1048576 := by have := hD.out.len; omega
        have hsz2 := BoxD.mk (fun z (hz : z ∈ mrg cs) => by
          obtain ⟨j, hj⟩ := List.getElem?_of_mem hz
          have := (hD.out.at_ j z hj).2
          show z.1.size ≤ maxLen
          unfold maxLen; omega)
        have hRw := hR.keep hBw
        have hBt := belowT hBw hB
        cases hv2 : okBas st (mrg cs) b
        · have hm := BoxD.mk (show mgV st cs b = (0, [], ⟨#[]⟩, 5) by unfold mgV; rw [hv, hv2]; rfl)
          go_wp2_with fail
          refine (l17Ok_eq _ st C m c' b (mrg cs) false _ ⟨b0, b1, b2⟩ ho.recs hsz2.out hm40 hb hv2).mono ?_
          rintro e w5 ⟨rfl, hb5⟩
          have hR5 := hRw.keep hb5
          have hB5 := belowT hb5 hBt
          obtain ⟨⟨u0, r0⟩, ⟨u1, r1⟩, ⟨u2, r2⟩, z0, z1, z2⟩ := id hR5
          go_wp2_with fail
          obtain ⟨q1, q2, q3⟩ := hR5.wrote (.int .i64 0) (.slice none 0 0) (.string ⟨#[]⟩)
          refine bodyPost_ret (v := .tuple #[bval 0 none 0 0 ⟨#[]⟩, .int .i64 5]) (by simp [results, Tryd.results20, go_sem, q1, q2, q3]; try rfl) rfl ?_
          unfold MgPost
          rw [hm.out]
          exact ⟨none, 0, 0, rfl, ownR_nil _ _, ((hB5.setCell (by simp) _).setCell (by simp) _).setCell (by simp) _⟩
        · have hm := BoxD.mk (show mgV st cs b = (st, mrg cs, b, 0) by unfold mgV; rw [hv, hv2]; rfl)
          go_wp2_with fail
          refine (l17Ok_eq _ st C m c' b (mrg cs) true _ ⟨b0, b1, b2⟩ ho.recs hsz2.out hm40 hb hv2).mono ?_
          rintro e w5 ⟨rfl, hb5⟩
          have hR5 := hRw.keep hb5
          have hB5 := belowT hb5 hBt
          have a0 := keepc hb5 b0
          have a1 := keepc hb5 b1
          have a2 := keepc hb5 b2
          have ho5 := OwnR.kept ho (grown_below hb5 none) (by cases hv : (Value.slice C m c').ownBlock <;> simp)
          obtain ⟨⟨u0, r0⟩, ⟨u1, r1⟩, ⟨u2, r2⟩, z0, z1, z2⟩ := id hR5
          go_wp2_with fail
          obtain ⟨q1, q2, q3⟩ := hR5.wrote (.int .i64 st) (.slice C m c') (.string b)
          refine bodyPost_ret (v := .tuple #[bval st C m c' b, .int .i64 0]) (by simp [results, Tryd.results20, go_sem, q1, q2, q3]; try rfl) rfl ?_
          unfold MgPost
          rw [hm.out]
          exact ⟨C, m, c', rfl, ownR_set3 (ho5.mono (by omega)) (by omega) _ _ _, ((hB5.setCell (by simp) _).setCell (by simp) _).setCell (by simp) _⟩
end Go.Proofs.YtopefgahppfkcaaDoor
