/- MergeLayers: the law. -/
import Derived.Test.YtopefgahppfkcaaDoorMrg5
import Derived.Test.YtopefgahppfkcaaDoorVal7
namespace Go.Proofs.YtopefgahppfkcaaDoor
open Go.RowKit
set_option linter.unusedVariables false
set_option linter.unusedSimpArgs false
theorem ownR_below {w w' : World} {base : Nat} {v : Value} {n : Nat} {cs : List R2} (h : OwnR w base v n cs) (hb : Below w.heap.size w w') : OwnR w' base v n cs := h.kept (grown_below hb none) (by cases hv : v.ownBlock <;> simp)
theorem C3.grown {w w' : World} {q : Nat} {v0 v1 v2 : Value} {r : Option Nat} (h : C3 w q v0 v1 v2) (hg : w.grownBy w' r) (hne : r ≠ some q) : C3 w' q v0 v1 v2 :=
  ⟨hg.cell h.c0 (fun e => hne e.symm), hg.cell h.c1 (fun e => hne e.symm), hg.cell h.c2 (fun e => hne e.symm)⟩
theorem mgV_len {st : Int} {cs : List R2} {b : ByteArray} : (mgV st cs b).2.1.length ≤ 40 := by
  unfold mgV
  split
  · split
    · rename_i h; exact (okBas_lays h).len
    · simp
  · simp
theorem ownR_lt {w : World} {base : Nat} {A : Option Addr} {n c : Nat} {cs : List R2} (h : OwnR w base (.slice A n c) n cs) : ∀ g, blk A = some g → base ≤ g ∧ g < w.heap.size := by
  obtain ⟨xs, h, _, _⟩ := h
  exact fun g hg => World.ownsRow.lt h g (by rw [blk_own]; exact hg)
set_option maxRecDepth 100000 in
set_option maxHeartbeats 4000000 in
theorem law_FnExactMergeLayers (w : World) (c0 c1 c2 : Value) (S : Bas) (h0 : IsBasket w c0 c1 c2 S) : Calls Tryd.prog 7 #[.agg #[c0, c1, c2]] w fun e w' => e = .returned (.bool true) ∧ Below w.heap.size w w' := by
  obtain ⟨st, A, n, c, cs, b⟩ := S
  obtain ⟨rfl, rfl, rfl, ⟨hn, h, hs⟩, hb, _⟩ := h0
  simp only at hn h hs hb ⊢
  have HS := Box0.mk (fun x hx => (hs x hx).1)
  have HA := Box0.mk h
  have hbb := hb
  have hlen := mgV_len (st := st) (cs := cs) (b := b)
  have HV := Lib.hid (show mgV st cs b = ((mgV st cs b).1, (mgV st cs b).2.1, (mgV st cs b).2.2.1, (mgV st cs b).2.2.2) from rfl)
  generalize (mgV st cs b).1 = sv at *
  generalize (mgV st cs b).2.1 = rows at *
  generalize (mgV st cs b).2.2.1 = bv at *
  generalize (mgV st cs b).2.2.2 = code at *
  clear hs hb
  go_enter Tryd.func7, Tryd.ntmps7
  go_wp2_with fail
  obtain ⟨W, hW, hX, hB⟩ := box1 w (.int .i64 st) (.slice A n c) (.string b) 30
  rw [hW]
  clear hW
  refine (szBasket_any st A n c b cs 1048576 _ (h.keep hB) HS.out hn hbb (by omega) (by omega)).mono ?_
  rintro e w1 ⟨v, rfl, hb, v1, v2⟩
  have hV := Box0.mk v2
  clear v2 h
  (try replace hX := C3.keep hX hb); (try replace hW := C3.keep hW hb); (try replace hE := C3.keep hE hb); (try replace hG := C3.keep hG hb); (try replace hS := ownR_below hS hb); (try replace hg := ownR_below hg hb); (try replace hO := ownR_below hO hb); replace hB := belowT hb hB; clear hb
  by_cases v0 : v < 0
  · go_wp2_with fail
    go_ret
    exact ⟨rfl, hB⟩
  have hn2 : n ≤ 1048576 := hV.out (by omega)
  have x0 := hX.c0
  have x1 := hX.c1
  have x2 := hX.c2
  go_wp2_with fail
  refine (toBasket_any st A n c b cs _ (HA.out.keep hB) hn2).mono ?_
  rintro e w2 ⟨X0, rfl, hX1, hX2, hO, hb⟩
  (try replace hX := C3.keep hX hb); (try replace hW := C3.keep hW hb); (try replace hE := C3.keep hE hb); (try replace hG := C3.keep hG hb); (try replace hS := ownR_below hS hb); (try replace hg := ownR_below hg hb); (try replace hO := ownR_below hO hb); replace hB := belowT hb hB; clear hb
  clear x0 x1 x2
  go_wp2_with fail
  refine (specMerge_any st _ n n b cs _ hO.recs HS.out hn2 hbb).mono ?_
  unfold MgPost
  rw [HV.out]
  rintro e w3 ⟨C1, m, d1, rfl, hS0, hb⟩
  clear hO
  (try replace hX := C3.keep hX hb); (try replace hW := C3.keep hW hb); (try replace hE := C3.keep hE hb); (try replace hG := C3.keep hG hb); (try replace hS := ownR_below hS hb); (try replace hg := ownR_below hg hb); (try replace hO := ownR_below hO hb); replace hB := belowT hb hB; clear hb
  have hS := hS0
  clear hS0
  have hml : rows.length = m := hS.recs.1
  have hm40 : m ≤ 1048576 := by omega
  have hW := C3.new w3 (.int .i64 sv) (.slice C1 m d1) (.string bv) 35
  have hb := (Below.refl w3.heap.size w3).alloc (Nat.le_refl _) (.cells #[.int .i64 sv, .slice C1 m d1, .string bv] 35)
  have hW0 := hW
  clear hW
  (try replace hX := C3.keep hX hb); (try replace hW := C3.keep hW hb); (try replace hE := C3.keep hE hb); (try replace hG := C3.keep hG hb); (try replace hS := ownR_below hS hb); (try replace hg := ownR_below hg hb); (try replace hO := ownR_below hO hb); replace hB := belowT hb hB; clear hb
  have hW := hW0
  clear hW0
  generalize hB4 : w3.heap.size = B4 at *
  generalize hw4 : w3.alloc (.cells #[.int .i64 sv, .slice C1 m d1, .string bv] 35) = w4 at *
  have x0 := hX.c0
  have x1 := hX.c1
  have x2 := hX.c2
  have s1 := fun g hg => (ownR_lt hS g hg).2
  have hz1 := hX.lt
  have hWl := hW.lt
  go_wp2_with fail
  refine (toBasket_any st A n c b cs _ (HA.out.keep hB) hn2).mono ?_
  rintro e w5 ⟨X1, rfl, hX1', hX2', hO, hb⟩
  have hO0 := hO
  clear hO x0 x1 x2
  (try replace hX := C3.keep hX hb); (try replace hW := C3.keep hW hb); (try replace hE := C3.keep hE hb); (try replace hG := C3.keep hG hb); (try replace hS := ownR_below hS hb); (try replace hg := ownR_below hg hb); (try replace hO := ownR_below hO hb); replace hB := belowT hb hB; clear hb
  have hO := hO0
  clear hO0 hw4 hB4
  have hE := C3.new w5 (.int .i64 st) (.slice (some ⟨X1, 0, none⟩) n n) (.string b) 35
  have hb := (Below.refl w5.heap.size w5).alloc (Nat.le_refl _) (.cells #[.int .i64 st, .slice (some ⟨X1, 0, none⟩) n n, .string b] 35)
  have hE0 := hE
  clear hE
  (try replace hX := C3.keep hX hb); (try replace hW := C3.keep hW hb); (try replace hE := C3.keep hE hb); (try replace hG := C3.keep hG hb); (try replace hS := ownR_below hS hb); (try replace hg := ownR_below hg hb); (try replace hO := ownR_below hO hb); replace hB := belowT hb hB; clear hb
  have hE := hE0
  clear hE0
  generalize hB6 : w5.heap.size = B6 at *
  generalize hw6 : w5.alloc (.cells #[.int .i64 st, .slice (some ⟨X1, 0, none⟩) n n, .string b] 35) = w6 at *
  have hEl := hE.lt
  have x0 := hE.c0
  have x1 := hE.c1
  have x2 := hE.c2
  go_wp2_with fail
  refine (implMerge_any st _ n n b cs _ hO.recs HS.out hn2 hbb).mono ?_
  unfold MgPost
  rw [HV.out]
  rintro e w7 ⟨C2, m2, d2, rfl, hg0, hb⟩
  obtain rfl : m2 = m := hg0.recs.1.symm.trans hml
  have hg1 := fun g hg => (ownR_lt hg0 g hg)
  have hz2 := hb.size
  clear x0 x1 x2
  (try replace hX := C3.keep hX hb); (try replace hW := C3.keep hW hb); (try replace hE := C3.keep hE hb); (try replace hG := C3.keep hG hb); (try replace hS := ownR_below hS hb); (try replace hg := ownR_below hg hb); (try replace hO := ownR_below hO hb); replace hB := belowT hb hB; clear hb
  have hg := hg0
  clear hg0 hw6 hB6
  have hb := (Below.refl w7.heap.size w7).alloc (Nat.le_refl _) (.cells #[.int .i64 sv, .slice C2 m2 d2, .string bv] 35)
  have hG0 := C3.new w7 (.int .i64 sv) (.slice C2 m2 d2) (.string bv) 35
  (try replace hX := C3.keep hX hb); (try replace hW := C3.keep hW hb); (try replace hE := C3.keep hE hb); (try replace hG := C3.keep hG hb); (try replace hS := ownR_below hS hb); (try replace hg := ownR_below hg hb); (try replace hO := ownR_below hO hb); replace hB := belowT hb hB; clear hb
  have hG := hG0
  clear hG0
  generalize hB7 : w7.heap.size = B7 at *
  generalize hw8 : w7.alloc (.cells #[.int .i64 sv, .slice C2 m2 d2, .string bv] 35) = w8 at *
  have hGl := hG.lt
  have x0 := hG.c0
  have x1 := hG.c1
  have x2 := hG.c2
  have y0 := hW.c0
  have y1 := hW.c1
  have y2 := hW.c2
  have qc : (code != code) = false := by simp
  go_wp2_with fail
  refine (eqBasket_same _ _ _ _ _ _ _ rows _ hg.recs hS.recs hm40).mono ?_
  rintro e w9 ⟨rfl, hb⟩
  clear x0 x1 x2 y0 y1 y2
  (try replace hX := C3.keep hX hb); (try replace hW := C3.keep hW hb); (try replace hE := C3.keep hE hb); (try replace hG := C3.keep hG hb); (try replace hS := ownR_below hS hb); (try replace hg := ownR_below hg hb); (try replace hO := ownR_below hO hb); replace hB := belowT hb hB; clear hb
  clear hw8 hB7
  have x0 := hX.c0
  have x1 := hX.c1
  have x2 := hX.c2
  have e0 := hE.c0
  have e1 := hE.c1
  have e2 := hE.c2
  have hRA := Box0.mk (HA.out.keep hB)
  have hRO := Box0.mk hO.recs
  have hBr := Below.refl w9.heap.size w9
  go_wp2_with fail
  go_region_held3 (fun w' => w'.cell? ⟨w.heap.size, 0, none⟩ = some (.int .i64 st) ∧ w'.cell? ⟨w.heap.size, 1, none⟩ = some (.slice A n c) ∧ w'.cell? ⟨w.heap.size, 2, none⟩ = some (.string b)
      ∧ w'.cell? ⟨B6, 0, none⟩ = some (.int .i64 st) ∧ w'.cell? ⟨B6, 1, none⟩ = some (.slice (some ⟨X1, 0, none⟩) n n) ∧ w'.cell? ⟨B6, 2, none⟩ = some (.string b)
      ∧ Box0 (Recs w' A n cs) ∧ Box0 (Recs w' (some ⟨X1, 0, none⟩) n cs) ∧ Below w9.heap.size w9 w')
    (((try go_split_ands); (try dsimp only); (repeat' apply And.intro)) <;> first | assumption | exact keepd (by assumption) | exact Below.drew (by assumption) | exact keepc hb2 (by assumption) | exact belowT hb2 (by assumption) | exact Box0.mk (Recs.drew (Box0.out (by assumption))) | exact Box0.mk (Recs.keep (Box0.out (by assumption)) hb2))
    ((first
      | (go_at_call 13; refine (toBasket_any _ _ _ _ _ _ _ (by go_split_ands; exact Box0.out (by assumption)) (by assumption)).mono ?_; rintro e w' ⟨Xz, rfl, hzz1, hzz2, hOz, hb2⟩)
      | (go_at_call 15; refine (eqBasket_same _ _ _ _ _ _ _ _ _ (by go_split_ands; exact Box0.out (by assumption)) (OwnR.recs (by assumption)) hn2).mono ?_; rintro e w' ⟨rfl, hb2⟩)))
  go_split_ands
  rename Below w9.heap.size w9 w' => hb
  clear x0 x1 x2 e0 e1 e2 hRA hRO hBr
  (try replace hX := C3.keep hX hb); (try replace hW := C3.keep hW hb); (try replace hE := C3.keep hE hb); (try replace hG := C3.keep hG hb); (try replace hS := ownR_below hS hb); (try replace hg := ownR_below hg hb); (try replace hO := ownR_below hO hb); replace hB := belowT hb hB; clear hb
  have e0 := hE.c0
  have e1 := hE.c1
  have e2 := hE.c2
  go_wp2_with fail
  refine (markBasket_any st _ n n b cs 1 X1 _ hO hn2 (by omega) (by omega)).mono ?_
  rintro e w10 ⟨rfl, hO2, hgw⟩
  replace hgw : World.grownBy _ w10 (some X1) := hgw
  clear hO hO2 e0 e1 e2 hE
  replace hX := C3.grown hX hgw (by intro e; injection e with e; omega)
  replace hW := C3.grown hW hgw (by intro e; injection e with e; omega)
  replace hG := C3.grown hG hgw (by intro e; injection e with e; omega)
  replace hS := OwnR.kept hS hgw (by rw [blk_own]; cases hC : blk C1 with | none => exact .inl rfl | some g => right; intro e; injection e with e; have := s1 g hC; omega)
  replace hg := OwnR.kept hg hgw (by rw [blk_own]; cases hC : blk C2 with | none => exact .inl rfl | some g => right; intro e; injection e with e; have := (hg1 g hC).1; omega)
  replace hB := hB.grown hgw hB.size (fun g e => by injection e with e; omega)
  clear hgw
  have tk : ¬ (1 + 2 * (n : Int) < 0) := by omega
  have tk2 : decide (1 + 2 * (n : Int) < 0) = false := decide_eq_false tk
  have tk3 : 0 ≤ 1 + 2 * (n : Int) := by omega
  have tm : ¬ (1 + 2 * (m2 : Int) < 0) := by omega
  have tm2 : decide (1 + 2 * (m2 : Int) < 0) = false := decide_eq_false tm
  have tm3 : 0 ≤ 1 + 2 * (m2 : Int) := by omega
  have tm4 : (1 + 2 * (m2 : Int) != 1 + 2 * (m2 : Int)) = false := by simp
  have x0 := hG.c0
  have x1 := hG.c1
  have x2 := hG.c2
  have y0 := hW.c0
  have y1 := hW.c1
  have y2 := hW.c2
  go_wp2_with fail
  refine (eqBasket_same _ _ _ _ _ _ _ rows _ hg.recs hS.recs hm40).mono ?_
  rintro e w11 ⟨rfl, hb⟩
  clear x0 x1 x2 y0 y1 y2
  (try replace hX := C3.keep hX hb); (try replace hW := C3.keep hW hb); (try replace hE := C3.keep hE hb); (try replace hG := C3.keep hG hb); (try replace hS := ownR_below hS hb); (try replace hg := ownR_below hg hb); (try replace hO := ownR_below hO hb); replace hB := belowT hb hB; clear hb
  have x0 := hG.c0
  have x1 := hG.c1
  have x2 := hG.c2
  go_wp2_with fail
  refine (markBasket_any sv C2 m2 d2 bv rows 1 w6.heap.size _ hg hm40 (by omega) (by omega)).mono ?_
  rintro e w12 ⟨rfl, hg2, hgw⟩
  rw [blk_own] at hgw
  clear x0 x1 x2 hg
  replace hX := C3.grown hX hgw (by intro e; have := (hg1 _ e).1; omega)
  replace hW := C3.grown hW hgw (by intro e; have := (hg1 _ e).1; omega)
  replace hG := C3.grown hG hgw (by intro e; have := (hg1 _ e).2; omega)
  replace hS := OwnR.kept hS hgw (by rw [blk_own]; cases hC : blk C1 with | none => exact .inl rfl | some g => right; intro e; have h1 := s1 g hC; have h2 := (hg1 g e.symm).1; omega)
  replace hB := hB.grown hgw hB.size (fun g e => by have := (hg1 g e).1; omega)
  have hg := hg2
  clear hgw hg2
  have x0 := hG.c0
  have x1 := hG.c1
  have x2 := hG.c2
  go_wp2_with fail
  refine (heldBasket_any sv C2 m2 d2 bv 1 _ hg.recs hm40 (by omega) (by omega)).mono ?_
  rintro e w13 ⟨rfl, hb⟩
  clear x0 x1 x2
  (try replace hX := C3.keep hX hb); (try replace hW := C3.keep hW hb); (try replace hE := C3.keep hE hb); (try replace hG := C3.keep hG hb); (try replace hS := ownR_below hS hb); (try replace hg := ownR_below hg hb); (try replace hO := ownR_below hO hb); replace hB := belowT hb hB; clear hb
  have x0 := hX.c0
  have x1 := hX.c1
  have x2 := hX.c2
  go_wp2_with fail
  refine (toBasket_any st A n c b cs _ (HA.out.keep hB) hn2).mono ?_
  rintro e w14 ⟨X5, rfl, _, _, hO, hb⟩
  have hO0 := hO
  clear hO x0 x1 x2
  (try replace hX := C3.keep hX hb); (try replace hW := C3.keep hW hb); (try replace hE := C3.keep hE hb); (try replace hG := C3.keep hG hb); (try replace hS := ownR_below hS hb); (try replace hg := ownR_below hg hb); (try replace hO := ownR_below hO hb); replace hB := belowT hb hB; clear hb
  have hO := hO0
  clear hO0
  go_wp2_with fail
  refine (implMerge_any st _ n n b cs _ hO.recs HS.out hn2 hbb).mono ?_
  unfold MgPost
  rw [HV.out]
  rintro e w15 ⟨C3', m3, d3, rfl, hh0, hb⟩
  obtain rfl : m3 = m2 := hh0.recs.1.symm.trans hml
  clear hO
  (try replace hX := C3.keep hX hb); (try replace hW := C3.keep hW hb); (try replace hE := C3.keep hE hb); (try replace hG := C3.keep hG hb); (try replace hS := ownR_below hS hb); (try replace hg := ownR_below hg hb); (try replace hO := ownR_below hO hb); replace hB := belowT hb hB; clear hb
  have hb := (Below.refl w15.heap.size w15).alloc (Nat.le_refl _) (.cells #[.int .i64 sv, .slice C3' m3 d3, .string bv] 35)
  have hh := ownR_below hh0 hb
  have hE0 := C3.new w15 (.int .i64 sv) (.slice C3' m3 d3) (.string bv) 35
  (try replace hX := C3.keep hX hb); (try replace hW := C3.keep hW hb); (try replace hE := C3.keep hE hb); (try replace hG := C3.keep hG hb); (try replace hS := ownR_below hS hb); (try replace hg := ownR_below hg hb); (try replace hO := ownR_below hO hb); replace hB := belowT hb hB; clear hb
  generalize hB9 : w15.heap.size = B9 at *
  generalize hw16 : w15.alloc (.cells #[.int .i64 sv, .slice C3' m3 d3, .string bv] 35) = w16 at *
  have x0 := hE0.c0
  have x1 := hE0.c1
  have x2 := hE0.c2
  have y0 := hW.c0
  have y1 := hW.c1
  have y2 := hW.c2
  go_wp2_with fail
  refine (eqBasket_same _ _ _ _ _ _ _ rows _ hh.recs hS.recs hm40).mono ?_
  rintro e w17 ⟨rfl, hb⟩
  clear x0 x1 x2 y0 y1 y2 hw16 hB9 hh0 hh hE0
  (try replace hX := C3.keep hX hb); (try replace hW := C3.keep hW hb); (try replace hE := C3.keep hE hb); (try replace hG := C3.keep hG hb); (try replace hS := ownR_below hS hb); (try replace hg := ownR_below hg hb); (try replace hO := ownR_below hO hb); replace hB := belowT hb hB; clear hb
  have x0 := hG.c0
  have x1 := hG.c1
  have x2 := hG.c2
  go_wp2_with fail
  refine (heldBasket_any sv C2 m3 d2 bv 1 _ hg.recs hm40 (by omega) (by omega)).mono ?_
  rintro e w18 ⟨rfl, hb⟩
  go_wp2_with fail
  go_ret
  exact ⟨rfl, belowT hb hB⟩
end Go.Proofs.YtopefgahppfkcaaDoor
