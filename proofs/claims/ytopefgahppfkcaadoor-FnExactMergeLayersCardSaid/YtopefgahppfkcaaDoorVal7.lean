/- The laws of ValidBasket and RoundsOfBasket. -/
import Derived.Test.YtopefgahppfkcaaDoorVal6
namespace Go.Proofs.YtopefgahppfkcaaDoor
open Go.RowKit
set_option linter.unusedVariables false
set_option linter.unusedSimpArgs false

set_option maxRecDepth 100000 in
set_option maxHeartbeats 4000000 in
theorem law_FnExactValidBasket (w : World) (c0 c1 c2 : Value) (S : Bas) (h0 : IsBasket w c0 c1 c2 S)  : Calls Tryd.prog 4 #[.agg #[c0, c1, c2]] w fun e w' => e = .returned (.bool true) ∧ Below w.heap.size w w' := by
  obtain ⟨st, A, n, c, cs, b⟩ := S
  obtain ⟨rfl, rfl, rfl, ⟨hn, h, hs⟩, hb, _⟩ := h0
  simp only at hn h hs hb ⊢
  have HS := Box0.mk (fun x hx => (hs x hx).1)
  clear hs
  go_enter Tryd.func4, Tryd.ntmps4
  go_wp2_with fail
  obtain ⟨W, hW, hX, hB⟩ := box1 w (.int .i64 st) (.slice A n c) (.string b) 30
  have h' := h.keep hB
  rw [hW]
  clear hW h
  refine (szBasket_any st A n c b cs 1048576 _ h' HS.out hn hb (by omega) (by omega)).mono ?_
  rintro e w1 ⟨v, rfl, hb1, v1, v2⟩
  have hV := Box0.mk v2
  clear v2
  replace hB := belowT hb1 hB
  by_cases v0 : v < 0
  · go_wp2_with fail
    go_ret
    exact ⟨rfl, hB⟩
  have hn2 : n ≤ 1048576 := hV.out (by omega)
  replace hX := hX.keep hb1
  have hR := Box0.mk (h'.keep hb1)
  clear h' hb1
  obtain ⟨x0, x1, x2⟩ := id hX
  go_wp2_with fail
  refine (toBasket_any _ _ _ _ _ _ _ hR.out hn2).mono ?_
  rintro e w2 ⟨X0, rfl, hX1, hX2, hO1, hb2⟩
  replace hX := hX.keep hb2
  replace hR := Box0.mk (hR.out.keep hb2)
  replace hB := belowT hb2 hB
  clear hb2 x0 x1 x2
  obtain ⟨x0, x1, x2⟩ := id hX
  go_wp2_with fail
  refine (specValidBasket_any _ _ _ _ _ _ _ hO1.recs HS.out hn2 hb).mono ?_
  rintro e w3 ⟨rfl, hb3⟩
  replace hX := hX.keep hb3
  replace hR := Box0.mk (hR.out.keep hb3)
  replace hB := belowT hb3 hB
  clear hb3 x0 x1 x2 hO1 hX1 hX2
  obtain ⟨x0, x1, x2⟩ := id hX
  go_wp2_with fail
  refine (toBasket_any _ _ _ _ _ _ _ hR.out hn2).mono ?_
  rintro e w4 ⟨X1, rfl, hX1, hX2, hO1, hb4⟩
  replace hX := hX.keep hb4
  replace hR := Box0.mk (hR.out.keep hb4)
  replace hB := belowT hb4 hB
  have hE := C3.new w4 (.int .i64 st) (.slice (some ⟨X1, 0, none⟩) n n) (.string b) 35
  have hB4 : Below w4.heap.size w4 (w4.alloc (.cells #[.int .i64 st, .slice (some ⟨X1, 0, none⟩) n n, .string b] 35)) := by go_grown
  clear hb4 x0 x1 x2
  go_wp2_with fail
  have hRO := Box0.mk (hO1.recs.keep hB4)
  refine (implValidBasket_any _ _ _ _ _ _ _ hRO.out HS.out hn2 hb).mono ?_
  rintro e w5 ⟨rfl, hb5⟩
  have hb45 := belowT hb5 hB4
  replace hE := hE.keep hb5
  replace hRO := Box0.mk (hRO.out.keep hb5)
  replace hX := hX.keep hb45
  replace hR := Box0.mk (hR.out.keep hb45)
  replace hB := belowT hb45 hB
  obtain ⟨x0, x1, x2⟩ := id hX
  obtain ⟨e0, e1, e2⟩ := id hE
  clear hb45 hb5 hB4 hE hX hX1 hX2 hO1
  generalize w4.heap.size = q3 at *
  generalize hv : okBas st cs b = vv
  have tb : (vv != vv) = false := by simp
  have tt : True := trivial
  go_wp2_with fail
  go_region_held3 (fun w' => w'.cell? ⟨w.heap.size, 0, none⟩ = some (.int .i64 st) ∧ w'.cell? ⟨w.heap.size, 1, none⟩ = some (.slice A n c) ∧ w'.cell? ⟨w.heap.size, 2, none⟩ = some (.string b)
      ∧ w'.cell? ⟨q3, 0, none⟩ = some (.int .i64 st) ∧ w'.cell? ⟨q3, 1, none⟩ = some (.slice (some ⟨X1, 0, none⟩) n n) ∧ w'.cell? ⟨q3, 2, none⟩ = some (.string b)
      ∧ Box0 (Recs w' A n cs) ∧ Box0 (Recs w' (some ⟨X1, 0, none⟩) n cs) ∧ Below w.heap.size w w')
    (((try go_split_ands); (try dsimp only); (repeat' apply And.intro)) <;> first | assumption | exact keepd (by assumption) | exact Below.drew (by assumption) | exact keepc hb2 (by assumption) | exact belowT hb2 (by assumption) | exact Box0.mk (Recs.drew (Box0.out (by assumption))) | exact Box0.mk (Recs.keep (Box0.out (by assumption)) hb2))
    ((first
      | (go_at_call 13; refine (toBasket_any _ _ _ _ _ _ _ (by go_split_ands; exact Box0.out (by assumption)) (by assumption)).mono ?_; rintro e w' ⟨X, rfl, hX1, hX2, hO, hb2⟩)
      | (go_at_call 15; refine (eqBasket_same _ _ _ _ _ _ _ _ _ (by go_split_ands; exact Box0.out (by assumption)) (OwnR.recs (by assumption)) hn2).mono ?_; rintro e w' ⟨rfl, hb2⟩)))
  go_split_ands
  go_wp2_with fail
  go_ret
  exact ⟨rfl, by assumption⟩
set_option maxRecDepth 100000 in
set_option maxHeartbeats 4000000 in
theorem law_FnExactRoundsOfBasket (w : World) (c0 c1 c2 : Value) (S : Bas) (h0 : IsBasket w c0 c1 c2 S)  : Calls Tryd.prog 5 #[.agg #[c0, c1, c2]] w fun e w' => e = .returned (.bool true) ∧ Below w.heap.size w w' := by
  obtain ⟨st, A, n, c, cs, b⟩ := S
  obtain ⟨rfl, rfl, rfl, ⟨hn, h, hs⟩, hb, _⟩ := h0
  simp only at hn h hs hb ⊢
  have HS := Box0.mk (fun x hx => (hs x hx).1)
  clear hs
  go_enter Tryd.func5, Tryd.ntmps5
  go_wp2_with fail
  obtain ⟨W, hW, hX, hB⟩ := box1 w (.int .i64 st) (.slice A n c) (.string b) 30
  have h' := h.keep hB
  rw [hW]
  clear hW h
  refine (szBasket_any st A n c b cs 1048576 _ h' HS.out hn hb (by omega) (by omega)).mono ?_
  rintro e w1 ⟨v, rfl, hb1, v1, v2⟩
  have hV := Box0.mk v2
  clear v2
  replace hB := belowT hb1 hB
  by_cases v0 : v < 0
  · go_wp2_with fail
    go_ret
    exact ⟨rfl, hB⟩
  have hn2 : n ≤ 1048576 := hV.out (by omega)
  replace hX := hX.keep hb1
  have hR := Box0.mk (h'.keep hb1)
  clear h' hb1
  obtain ⟨x0, x1, x2⟩ := id hX
  go_wp2_with fail
  refine (toBasket_any _ _ _ _ _ _ _ hR.out hn2).mono ?_
  rintro e w2 ⟨X0, rfl, hX1, hX2, hO1, hb2⟩
  replace hX := hX.keep hb2
  replace hR := Box0.mk (hR.out.keep hb2)
  replace hB := belowT hb2 hB
  clear hb2 x0 x1 x2
  obtain ⟨x0, x1, x2⟩ := id hX
  go_wp2_with fail
  refine (specRounds_any _ _ _ _ _ _ _ hO1.recs HS.out hn2 hb).mono ?_
  rintro e w3 ⟨rfl, hb3⟩
  replace hX := hX.keep hb3
  replace hR := Box0.mk (hR.out.keep hb3)
  replace hB := belowT hb3 hB
  clear hb3 x0 x1 x2 hO1 hX1 hX2
  obtain ⟨x0, x1, x2⟩ := id hX
  go_wp2_with fail
  refine (toBasket_any _ _ _ _ _ _ _ hR.out hn2).mono ?_
  rintro e w4 ⟨X1, rfl, hX1, hX2, hO1, hb4⟩
  replace hX := hX.keep hb4
  replace hR := Box0.mk (hR.out.keep hb4)
  replace hB := belowT hb4 hB
  have hE := C3.new w4 (.int .i64 st) (.slice (some ⟨X1, 0, none⟩) n n) (.string b) 35
  have hB4 : Below w4.heap.size w4 (w4.alloc (.cells #[.int .i64 st, .slice (some ⟨X1, 0, none⟩) n n, .string b] 35)) := by go_grown
  clear hb4 x0 x1 x2
  go_wp2_with fail
  have hRO := Box0.mk (hO1.recs.keep hB4)
  refine (implRounds_any _ _ _ _ _ _ _ hRO.out HS.out hn2 hb).mono ?_
  rintro e w5 ⟨rfl, hb5⟩
  have hb45 := belowT hb5 hB4
  replace hE := hE.keep hb5
  replace hRO := Box0.mk (hRO.out.keep hb5)
  replace hX := hX.keep hb45
  replace hR := Box0.mk (hR.out.keep hb45)
  replace hB := belowT hb45 hB
  obtain ⟨x0, x1, x2⟩ := id hX
  obtain ⟨e0, e1, e2⟩ := id hE
  clear hb45 hb5 hB4 hE hX hX1 hX2 hO1
  generalize w4.heap.size = q3 at *
  generalize hv : okBas st cs b = vv
  have tb : (vv != vv) = false := by simp
  have t1 : ((roV vv cs).1 != (roV vv cs).1) = false := by simp
  have t2 : ((roV vv cs).2 != (roV vv cs).2) = false := by simp
  go_wp2_with fail
  go_region_held3 (fun w' => w'.cell? ⟨w.heap.size, 0, none⟩ = some (.int .i64 st) ∧ w'.cell? ⟨w.heap.size, 1, none⟩ = some (.slice A n c) ∧ w'.cell? ⟨w.heap.size, 2, none⟩ = some (.string b)
      ∧ w'.cell? ⟨q3, 0, none⟩ = some (.int .i64 st) ∧ w'.cell? ⟨q3, 1, none⟩ = some (.slice (some ⟨X1, 0, none⟩) n n) ∧ w'.cell? ⟨q3, 2, none⟩ = some (.string b)
      ∧ Box0 (Recs w' A n cs) ∧ Box0 (Recs w' (some ⟨X1, 0, none⟩) n cs) ∧ Below w.heap.size w w')
    (((try go_split_ands); (try dsimp only); (repeat' apply And.intro)) <;> first | assumption | exact keepd (by assumption) | exact Below.drew (by assumption) | exact keepc hb2 (by assumption) | exact belowT hb2 (by assumption) | exact Box0.mk (Recs.drew (Box0.out (by assumption))) | exact Box0.mk (Recs.keep (Box0.out (by assumption)) hb2))
    ((first
      | (go_at_call 13; refine (toBasket_any _ _ _ _ _ _ _ (by go_split_ands; exact Box0.out (by assumption)) (by assumption)).mono ?_; rintro e w' ⟨X, rfl, hX1, hX2, hO, hb2⟩)
      | (go_at_call 15; refine (eqBasket_same _ _ _ _ _ _ _ _ _ (by go_split_ands; exact Box0.out (by assumption)) (OwnR.recs (by assumption)) hn2).mono ?_; rintro e w' ⟨rfl, hb2⟩)))
  go_split_ands
  go_wp2_with fail
  go_ret
  exact ⟨rfl, by assumption⟩
end Go.Proofs.YtopefgahppfkcaaDoor
