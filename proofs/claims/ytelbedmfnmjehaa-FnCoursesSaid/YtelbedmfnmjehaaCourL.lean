/- FnCourses: the law. -/
import Derived.Test.YtelbedmfnmjehaaCourD6
import Derived.Test.YtelbedmfnmjehaaCourF
import Derived.Test.YtelbedmfnmjehaaCourU
import Derived.Test.YtelbedmfnmjehaaHigh3
import Derived.Test.YtelbedmfnmjehaaF6
namespace Go.Proofs.Ytelbedmfnmjehaa
open Go.RowKit
set_option linter.unusedVariables false
set_option linter.unusedSimpArgs false

/-- Block p holds a fraction. -/
structure F2 (w : World) (p : Nat) (a b : Int) : Prop where
  c0 : w.cell? ⟨p, 0, none⟩ = some (.int .i64 a)
  c1 : w.cell? ⟨p, 1, none⟩ = some (.int .i64 b)
theorem F2.new (w : World) (a b : Int) (t : TypeId) : F2 (w.alloc (.cells #[.int .i64 a, .int .i64 b] t)) w.heap.size a b := ⟨by go_cell, by go_cell⟩
theorem F2.keep {w w' : World} {p : Nat} {a b : Int} (h : F2 w p a b) (hb : Below w.heap.size w w') : F2 w' p a b := ⟨keepc hb h.c0, keepc hb h.c1⟩
theorem neqF (a b : Int) (w : World) : (Go.binOp BinOp.neq 46 (Value.agg #[.int .i64 a, .int .i64 b]) (Value.agg #[.int .i64 a, .int .i64 b])).run Try.prog w = .ok (.bool false) w := by
  have u3 := Try.underlying2
  have a3 := Try.isAgg2
  have z3 := Try.sizeOf2
  have hS : Try.prog.underlying 46 = some (.struct (Try.prog.fieldsOf 46)) := by kernel_rfl
  have hp : Try.prog.stoodInHeld 46 = false := by kernel_rfl
  simp only [Go.binOp, Op.equal, Op.maxDepth]
  rw [show (10000 : Nat) = 9999 + 1 from rfl]
  simp only [Sem.run_bind]
  rw [run_equalIn_agg w 9999 46 _ _ hS hp]
  simp only [Program.fieldsOf, Try.underlying46]
  go_simp

theorem Recs.drop1 {w : World} {b n : Nat} {cs : List R3} (h : Recs w (some ⟨b, 0, none⟩) n cs) (h0 : 0 < n) : Recs w (some ⟨b, 3, none⟩) (n - 1) (cs.drop 1) := by
  refine ⟨by have := h.1; simp; omega, fun hn => ?_⟩
  obtain ⟨b', off, e, hlt, hc⟩ := h.2 h0
  injection e with e
  injection e with e1 e2
  subst e1 e2
  refine ⟨b, 3, rfl, hlt, fun j x hx => ?_⟩
  rw [List.getElem?_drop] at hx
  obtain ⟨a, b, c⟩ := hc (1 + j) x hx
  rw [show 0 + (1 + j) * 3 = 3 + j * 3 by omega] at a b c
  exact ⟨a, b, c⟩
theorem lenCV_ok {cs : List R3} {s : Int} (ho : okCs cs = true) (hs : inB s 3 60 = true) {k : Nat} {x : R3} (hx : cs[k]? = some x) : lenCV x.1 x.2.1 x.2.2 s = (x.2.2 * x.1, x.2.2 * mostL x.1 x.2.1 s, 0) ∧ x.2.2 * x.1 ≤ x.2.2 * mostL x.1 x.2.1 s := by
  have h1 := (okCs_iff.1 ho).1 x (List.mem_of_getElem? hx)
  obtain ⟨i1, i2, i3⟩ := (okCourse_iff _ _ _).1 h1
  have hs' := (inB_iff _ _ _).1 hs
  have h4 := mostL_bd i1 i2 hs'
  refine ⟨by unfold lenCV; rw [show okCourse x.1 x.2.1 x.2.2 = true from h1, hs]; rfl, ?_⟩
  have : x.1 ≤ mostL x.1 x.2.1 s := by
    have := ovr_bd (a := 2 * x.2.1 * s) (b := 10) h4.1 (by omega)
    unfold mostL; omega
  exact Int.mul_le_mul_of_nonneg_left this (by omega)

set_option maxRecDepth 100000 in
set_option maxHeartbeats 8000000 in
theorem law_FnCourses (w : World) (A : Option Addr) (n c : Nat) (zs : List Int) (h0 : IsInts .u8 w A n zs) : Calls Try.prog 13 #[.slice A n c] w fun e w' => e = .returned (.bool true) ∧ Below w.heap.size w w' := by
  have hY := bytes_of h0
  cases hbig : decide (4096 < n)
  case true =>
    go_enter Try.func13, Try.ntmps13
    go_wp2_with fail
    refine (f6big_any _ _ _ true _ hY.1 hbig).mono ?_
    rintro e w' ⟨rfl, rfl⟩
    go_wp2_with fail
    go_ret
    exact ⟨rfl, Below.refl _ _⟩
  go_enter Try.func13, Try.ntmps13
  go_wp2_with fail
  refine (f6big_any _ _ _ false _ hY.1 hbig).mono ?_
  rintro e w' ⟨rfl, rfl⟩
  clear hbig
  go_wp2_with fail
  refine (drawLengthOfAll_any _ _ _ _ hY).mono ?_
  rintro e w1 ⟨C, q, cq, cs, st, rfl, hL, hq, hqc, hB⟩
  have hqn : q ≤ 1048576 := by omega
  have AF := Lib.hid (all_facts (cs := cs) (s := st) hL.1)
  have AE := Lib.hid (show lenAllV cs st = ((lenAllV cs st).1, (lenAllV cs st).2.1, (lenAllV cs st).2.2) from rfl)
  generalize (lenAllV cs st).1 = lo at *
  generalize (lenAllV cs st).2.1 = hi at *
  generalize (lenAllV cs st).2.2 = bad at *
  go_wp2_with fail
  refine (implLengthOfAll_any _ _ _ _ _ _ hL hqn).mono ?_
  rw [AE.out]
  rintro e w2 ⟨rfl, hb⟩
  (try replace hL := Recs.keep hL hb); (try replace hD := Recs.keep hD hb); (try replace hI := Ints.keep hI hb); (try replace hS := Ints.keep hS hb); (try replace x := B3.keep x hb); (try replace f1 := F2.keep f1 hb); (try replace f2 := F2.keep f2 hb); (try replace hP := Recs.keep hP hb); (try replace hQ := Recs.keep hQ hb); (try replace hG := Recs.keep hG hb); replace hB := belowT hb hB; clear hb
  go_wp2_with fail
  refine (specLengthOfAll_any _ _ _ _ _ _ hL hqn).mono ?_
  rw [AE.out]
  rintro e w3 ⟨rfl, hb⟩
  (try replace hL := Recs.keep hL hb); (try replace hD := Recs.keep hD hb); (try replace hI := Ints.keep hI hb); (try replace hS := Ints.keep hS hb); (try replace x := B3.keep x hb); (try replace f1 := F2.keep f1 hb); (try replace f2 := F2.keep f2 hb); (try replace hP := Recs.keep hP hb); (try replace hQ := Recs.keep hQ hb); (try replace hG := Recs.keep hG hb); replace hB := belowT hb hB; clear hb
  go_wp2_with fail
  refine (drawHeightAt_any _ _ _ _ ((hY.keep hB).mono hB.size)).mono ?_
  rintro e w4 ⟨D, r, dc, ds, p, rfl, hD, hr, hrc, hb⟩
  (try replace hL := Recs.keep hL hb); (try replace hD := Recs.keep hD hb); (try replace hI := Ints.keep hI hb); (try replace hS := Ints.keep hS hb); (try replace x := B3.keep x hb); (try replace f1 := F2.keep f1 hb); (try replace f2 := F2.keep f2 hb); (try replace hP := Recs.keep hP hb); (try replace hQ := Recs.keep hQ hb); (try replace hG := Recs.keep hG hb); replace hB := belowT hb hB; clear hb
  have hrn : r ≤ 1048576 := by omega
  have hlr : (highV ds p).1.length ≤ r := by have := highV_len (cs := ds) (p := p); have := hD.1; omega
  have HF := Lib.hid (high_facts (ds := ds) (p := p))
  have HE := Lib.hid (show highV ds p = ((highV ds p).1, (highV ds p).2) from rfl)
  have FE := Lib.hid (show heightF ds p = ((heightF ds p).1, (heightF ds p).2.1, (heightF ds p).2.2) from rfl)
  generalize (highV ds p).1 = hl at *
  generalize (highV ds p).2 = two at *
  generalize (heightF ds p).1 = nu at *
  generalize (heightF ds p).2.1 = de at *
  generalize (heightF ds p).2.2 = five at *
  go_wp2_with fail
  refine (implHeightAt_any _ _ _ _ _ _ hD hrn).mono ?_
  unfold HighPost
  rw [HE.out]
  rintro e w5 ⟨E1, q1, c1, rfl, hO, hb⟩
  have hI : Ints w5 E1 q1 hl := hO.ints
  clear hO
  have hI0 := hb
  replace hL := Recs.keep hL hb
  replace hD := Recs.keep hD hb
  replace hB := belowT hb hB
  clear hb hI0
  have hq1 : q1 ≤ 61 := by have := hI.1; omega
  go_wp2_with fail
  refine (specHeightAt_any _ _ _ _ _ _ hD hrn hrc).mono ?_
  unfold HighPost
  rw [HE.out]
  rintro e w6 ⟨E2, q2, c2, rfl, hO, hb⟩
  have hS : Ints w6 E2 q2 hl := hO.ints
  clear hO
  obtain rfl : q1 = q2 := hI.1.symm.trans hS.1
  have hH := hS
  clear hS
  (try replace hL := Recs.keep hL hb); (try replace hD := Recs.keep hD hb); (try replace hI := Ints.keep hI hb); (try replace hS := Ints.keep hS hb); (try replace x := B3.keep x hb); (try replace f1 := F2.keep f1 hb); (try replace f2 := F2.keep f2 hb); (try replace hP := Recs.keep hP hb); (try replace hQ := Recs.keep hQ hb); (try replace hG := Recs.keep hG hb); replace hB := belowT hb hB; clear hb
  have hS := hH
  clear hH
  go_wp2_with fail
  refine (drawCoursesFor_any _ _ _ _ ((hY.keep hB).mono hB.size)).mono ?_
  rintro e w7 ⟨xa, xt, xm, ht, pk, rfl, hb⟩
  (try replace hL := Recs.keep hL hb); (try replace hD := Recs.keep hD hb); (try replace hI := Ints.keep hI hb); (try replace hS := Ints.keep hS hb); (try replace x := B3.keep x hb); (try replace f1 := F2.keep f1 hb); (try replace f2 := F2.keep f2 hb); (try replace hP := Recs.keep hP hb); (try replace hQ := Recs.keep hQ hb); (try replace hG := Recs.keep hG hb); replace hB := belowT hb hB; clear hb
  go_wp2_with fail
  have x := B3.new w7 xa xt xm 26
  have hb := (Below.refl w7.heap.size w7).alloc (Nat.le_refl _) (.cells #[.int .i64 xa, .int .i64 xt, .int .i64 xm] 26)
  have x0 := x
  clear x
  (try replace hL := Recs.keep hL hb); (try replace hD := Recs.keep hD hb); (try replace hI := Ints.keep hI hb); (try replace hS := Ints.keep hS hb); (try replace x := B3.keep x hb); (try replace f1 := F2.keep f1 hb); (try replace f2 := F2.keep f2 hb); (try replace hP := Recs.keep hP hb); (try replace hQ := Recs.keep hQ hb); (try replace hG := Recs.keep hG hb); replace hB := belowT hb hB; clear hb
  have x := x0
  clear x0
  generalize w7.heap.size = X at *
  generalize w7.alloc (.cells #[.int .i64 xa, .int .i64 xt, .int .i64 xm] 26) = w8 at *
  have CF := Lib.hid (cours_facts (a := xa) (t := xt) (m := xm) (h := ht) (p := pk))
  have CE := Lib.hid (show coursV xa xt xm ht pk = ((coursV xa xt xm ht pk).1, (coursV xa xt xm ht pk).2) from rfl)
  generalize (coursV xa xt xm ht pk).1 = many at *
  generalize (coursV xa xt xm ht pk).2 = three at *
  have e1 := x.c0; have e2 := x.c1; have e3 := x.c2
  go_wp2_with fail
  refine (implCoursesFor_any _ _ _ _ _ _).mono ?_
  rw [CE.out]
  rintro e w9 ⟨rfl, hb⟩
  (try replace hL := Recs.keep hL hb); (try replace hD := Recs.keep hD hb); (try replace hI := Ints.keep hI hb); (try replace hS := Ints.keep hS hb); (try replace x := B3.keep x hb); (try replace f1 := F2.keep f1 hb); (try replace f2 := F2.keep f2 hb); (try replace hP := Recs.keep hP hb); (try replace hQ := Recs.keep hQ hb); (try replace hG := Recs.keep hG hb); replace hB := belowT hb hB; clear hb
  clear e1 e2 e3
  have e1 := x.c0; have e2 := x.c1; have e3 := x.c2
  go_wp2_with fail
  refine (specCoursesFor_any _ _ _ _ _ _).mono ?_
  rw [CE.out]
  rintro e w10 ⟨rfl, hb⟩
  (try replace hL := Recs.keep hL hb); (try replace hD := Recs.keep hD hb); (try replace hI := Ints.keep hI hb); (try replace hS := Ints.keep hS hb); (try replace x := B3.keep x hb); (try replace f1 := F2.keep f1 hb); (try replace f2 := F2.keep f2 hb); (try replace hP := Recs.keep hP hb); (try replace hQ := Recs.keep hQ hb); (try replace hG := Recs.keep hG hb); replace hB := belowT hb hB; clear hb
  clear e1 e2 e3
  go_wp2_with fail
  refine (implHeightOf_any _ _ _ _ _ _ hD hrn).mono ?_
  rw [FE.out]
  rintro e w11 ⟨rfl, hb⟩
  (try replace hL := Recs.keep hL hb); (try replace hD := Recs.keep hD hb); (try replace hI := Ints.keep hI hb); (try replace hS := Ints.keep hS hb); (try replace x := B3.keep x hb); (try replace f1 := F2.keep f1 hb); (try replace f2 := F2.keep f2 hb); (try replace hP := Recs.keep hP hb); (try replace hQ := Recs.keep hQ hb); (try replace hG := Recs.keep hG hb); replace hB := belowT hb hB; clear hb
  go_wp2_with fail
  have hb := (Below.refl w11.heap.size w11).alloc (Nat.le_refl _) (.cells #[.int .i64 nu, .int .i64 de] 46)
  (try replace hL := Recs.keep hL hb); (try replace hD := Recs.keep hD hb); (try replace hI := Ints.keep hI hb); (try replace hS := Ints.keep hS hb); (try replace x := B3.keep x hb); (try replace f1 := F2.keep f1 hb); (try replace f2 := F2.keep f2 hb); (try replace hP := Recs.keep hP hb); (try replace hQ := Recs.keep hQ hb); (try replace hG := Recs.keep hG hb); replace hB := belowT hb hB; clear hb
  have f1 := F2.new w11 nu de 46
  generalize w11.heap.size = P1 at *
  generalize w11.alloc (.cells #[.int .i64 nu, .int .i64 de] 46) = w12 at *
  refine (specHeightOf_any _ _ _ _ _ _ hD hrn).mono ?_
  rw [FE.out]
  rintro e w13 ⟨rfl, hb⟩
  (try replace hL := Recs.keep hL hb); (try replace hD := Recs.keep hD hb); (try replace hI := Ints.keep hI hb); (try replace hS := Ints.keep hS hb); (try replace x := B3.keep x hb); (try replace f1 := F2.keep f1 hb); (try replace f2 := F2.keep f2 hb); (try replace hP := Recs.keep hP hb); (try replace hQ := Recs.keep hQ hb); (try replace hG := Recs.keep hG hb); replace hB := belowT hb hB; clear hb
  go_wp2_with fail
  have hb := (Below.refl w13.heap.size w13).alloc (Nat.le_refl _) (.cells #[.int .i64 nu, .int .i64 de] 46)
  (try replace hL := Recs.keep hL hb); (try replace hD := Recs.keep hD hb); (try replace hI := Ints.keep hI hb); (try replace hS := Ints.keep hS hb); (try replace x := B3.keep x hb); (try replace f1 := F2.keep f1 hb); (try replace f2 := F2.keep f2 hb); (try replace hP := Recs.keep hP hb); (try replace hQ := Recs.keep hQ hb); (try replace hG := Recs.keep hG hb); replace hB := belowT hb hB; clear hb
  have f2 := F2.new w13 nu de 46
  generalize w13.heap.size = P2 at *
  generalize w13.alloc (.cells #[.int .i64 nu, .int .i64 de] 46) = w14 at *
  refine (drawSameCourses_any _ _ _ _ ((hY.keep hB).mono hB.size)).mono ?_
  rintro e w15 ⟨G1, m1, gc1, gs, G2, m2, gc2, ks, rfl, hP, hQ, hm1, hm2, _, _, hb⟩
  (try replace hL := Recs.keep hL hb); (try replace hD := Recs.keep hD hb); (try replace hI := Ints.keep hI hb); (try replace hS := Ints.keep hS hb); (try replace x := B3.keep x hb); (try replace f1 := F2.keep f1 hb); (try replace f2 := F2.keep f2 hb); (try replace hP := Recs.keep hP hb); (try replace hQ := Recs.keep hQ hb); (try replace hG := Recs.keep hG hb); replace hB := belowT hb hB; clear hb
  have hmn1 : m1 ≤ 1048576 := by omega
  have hmn2 : m2 ≤ 1048576 := by omega
  have hqn1 : q1 ≤ 1048576 := by omega
  have q1a : (bad != bad) = false := by simp
  have q1b : (lo != lo) = false := by simp
  have q1c : (hi != hi) = false := by simp
  have q1d : (two != two) = false := by simp
  have q1e : (three != three) = false := by simp
  have q1f : (many != many) = false := by simp
  have q1g : (five != five) = false := by simp
  have hneq := neqF nu de
  have d1 := f1.c0
  have d2 := f1.c1
  have d3 := f2.c0
  have d4 := f2.c1
  have hgt : Try.prog.eqGuardType Try.prog.depth 46 = false := by kernel_rfl
  go_wp2_with fail
  refine (f6ints_any _ _ _ _ _ _ _ _ _ hI hS hqn1 hqn1).mono ?_
  rw [show decide (hl = hl) = true by simp]
  rintro e w16 ⟨rfl, u1, rfl⟩
  have hb := below_drewN (Below.refl w15.heap.size w15) u1
  (try replace hL := Recs.keep hL hb); (try replace hD := Recs.keep hD hb); (try replace hI := Ints.keep hI hb); (try replace hS := Ints.keep hS hb); (try replace x := B3.keep x hb); (try replace f1 := F2.keep f1 hb); (try replace f2 := F2.keep f2 hb); (try replace hP := Recs.keep hP hb); (try replace hQ := Recs.keep hQ hb); (try replace hG := Recs.keep hG hb); replace hB := belowT hb hB; clear hb
  generalize w15.drewN u1 = w16 at *
  clear d1 d2 d3 d4
  have d1 := f1.c0
  have d2 := f1.c1
  have d3 := f2.c0
  have d4 := f2.c1
  go_wp2_with fail
  refine (implSameCourses_any _ _ _ _ _ _ _ _ _ hP hQ hmn1 hmn2).mono ?_
  generalize hsb : decide (gs = ks) = sb
  rintro e w17 ⟨rfl, u2, rfl⟩
  have SB := Lib.hid hsb
  have hb := below_drewN (Below.refl w16.heap.size w16) u2
  clear d1 d2 d3 d4 hsb
  (try replace hL := Recs.keep hL hb); (try replace hD := Recs.keep hD hb); (try replace hI := Ints.keep hI hb); (try replace hS := Ints.keep hS hb); (try replace x := B3.keep x hb); (try replace f1 := F2.keep f1 hb); (try replace f2 := F2.keep f2 hb); (try replace hP := Recs.keep hP hb); (try replace hQ := Recs.keep hQ hb); (try replace hG := Recs.keep hG hb); replace hB := belowT hb hB; clear hb
  generalize w16.drewN u2 = w17 at *
  go_wp2_with fail
  refine (specSameCourses_any _ _ _ _ _ _ _ _ _ hP hQ hmn1 hmn2).mono ?_
  rw [SB.out]
  rintro e w18 ⟨rfl, u3, rfl⟩
  have hb := below_drewN (Below.refl w17.heap.size w17) u3
  (try replace hL := Recs.keep hL hb); (try replace hD := Recs.keep hD hb); (try replace hI := Ints.keep hI hb); (try replace hS := Ints.keep hS hb); (try replace x := B3.keep x hb); (try replace f1 := F2.keep f1 hb); (try replace f2 := F2.keep f2 hb); (try replace hP := Recs.keep hP hb); (try replace hQ := Recs.keep hQ hb); (try replace hG := Recs.keep hG hb); replace hB := belowT hb hB; clear hb
  generalize w17.drewN u3 = w18 at *
  have qsb : (sb != sb) = false := by simp
  clear SB
  go_wp2_with fail
  refine (validCourses_any _ _ _ _ _ hL hqn).mono ?_
  generalize hvb : okCs cs = vb
  have VB := Lib.hid hvb
  clear hvb
  rintro e w19 ⟨rfl, hb⟩
  (try replace hL := Recs.keep hL hb); (try replace hD := Recs.keep hD hb); (try replace hI := Ints.keep hI hb); (try replace hS := Ints.keep hS hb); (try replace x := B3.keep x hb); (try replace f1 := F2.keep f1 hb); (try replace f2 := F2.keep f2 hb); (try replace hP := Recs.keep hP hb); (try replace hQ := Recs.keep hQ hb); (try replace hG := Recs.keep hG hb); replace hB := belowT hb hB; clear hb
  go_wp2_with fail
  refine (specValidCourses_any _ _ _ _ _ hL hqn).mono ?_
  rw [VB.out]
  rintro e w20 ⟨rfl, rfl⟩
  have qvb : (vb != vb) = false := by simp
  go_wp2_with fail
  clear qvb qsb q1a q1b q1c q1d q1e q1f q1g hneq hgt VB
  have d3 := f2.c0
  have d4 := f2.c1
  go_loopw [30] (fun i wr => ∃ k : Nat, k ≤ q1 ∧ i = .int .i64 k ∧ ∃ u, wr = w19.drewN u) (fun i _ => q1 - (intOf i).toNat)
  case atStart => exact ⟨0, Nat.zero_le _, rfl, 0, rfl⟩
  case round =>
    obtain ⟨k, hk, rfl, nw, rfl⟩ := hrel
    by_cases hlt : k < q1
    · obtain ⟨b, off, z, rfl, hblt, hz, hcz⟩ := hS.at_ hlt
      obtain ⟨g1, g2, g3, g4, g5, g6⟩ := HF.out k z hz
      have G2 := Lib.hid g2
      clear g2
      have k0 : (0 : Int) ≤ (k : Int) := by omega
      have k1 : (k : Int) < (q1 : Int) := by omega
      have mb := mulb (x := z) (y := de) (A := 10801) (B := 1000) (by omega) (by omega) (by omega) (by omega)
      have wr1 : IntKind.i64.wrap (z * de) = z * de := IntWalk.i64_in _ (by omega)
      have wr2 : IntKind.i64.wrap (nu + de) = nu + de := IntWalk.i64_in _ (by omega)
      have t1 : ¬ (nu + de < z * de) := by omega
      have t2 : decide (nu + de < z * de) = false := decide_eq_false t1
      by_cases hk0 : k = 0
      · have hz0 := g1 hk0
        have kz : ((k : Int) == 0) = true := by rw [beq_iff_eq]; omega
        have kp : decide (0 < k) = false := by simp; omega
        have kq : (k : Int) ≤ 0 := by omega
        have zt : (z != 0) = false := by simp [hz0]
        clear hk0 hz0 g1
        go_wp2
        go_quiet (fail)
        go_wp2
        go_roundw
        case rel => exact ⟨k + 1, by omega, by go_num, (by first | exact ⟨_, rfl⟩ | exact drew2 _ _ _ | exact ⟨0, rfl⟩)⟩
        case measure => simp [intOf]; omega
      · obtain ⟨b', off', y, hA, hblt', hy, hcy⟩ := hS.at_ (show k - 1 < q1 by omega)
        injection hA with hA
        injection hA with hA1 hA2
        subst hA1 hA2
        have hyz := G2.out (k - 1) y (by omega) hy
        have kz : ((k : Int) == 0) = false := by rw [beq_eq_false_iff_ne]; omega
        have kp : decide (0 < k) = true := by simp; omega
        have kq : (1 : Int) ≤ (k : Int) := by omega
        have k3 : (0 : Int) ≤ (k : Int) - 1 := by omega
        have k4 : (k : Int) - 1 < (q1 : Int) := by omega
        have k5 : ((k : Int) - 1).toNat = k - 1 := by omega
        have t3 : ¬ (z < y) := by omega
        have t4 : decide (z < y) = false := decide_eq_false t3
        clear hk0 g1 hy hz
        go_wp2
        go_quiet (fail)
        go_wp2
        go_roundw
        case rel => exact ⟨k + 1, by omega, by go_num, (by first | exact ⟨_, rfl⟩ | exact drew2 _ _ _ | exact ⟨0, rfl⟩)⟩
        case measure => simp [intOf]; omega
    · obtain rfl : k = q1 := by omega
      have hb := below_drewN (Below.refl w19.heap.size w19) nw
      clear d3 d4 f1 f2 hD hI hS hP hQ HF
      (try replace hL := Recs.keep hL hb); (try replace hD := Recs.keep hD hb); (try replace hI := Ints.keep hI hb); (try replace hS := Ints.keep hS hb); (try replace x := B3.keep x hb); (try replace f1 := F2.keep f1 hb); (try replace f2 := F2.keep f2 hb); (try replace hP := Recs.keep hP hb); (try replace hQ := Recs.keep hQ hb); (try replace hG := Recs.keep hG hb); replace hB := belowT hb hB; clear hb
      generalize w19.drewN nw = w20 at *
      have hthree : three = 0 ∨ three ≠ 0 := by omega
      rcases hthree with rfl | hthree
      · obtain ⟨qq, rfl, CO⟩ := CF.out rfl
        have hqq := CO.le
        have hh0 := CO.h0
        have hh1 := CO.h1
        obtain ⟨nu2, de2, F3, ⟨u1, u2⟩, ⟨u3, u4⟩, u5⟩ := CO.own
        have F3 := Lib.hid F3
        have CL := Lib.hid CO.less
        clear CF CE
        go_wp2_with fail
        have hst0 := OwnR.start w20 w20.heap.size (Nat.le_refl _)
        have hal0 := (Below.refl w20.heap.size w20).alloc (Nat.le_refl _) (.cells #[] 26)
        obtain ⟨i0, hi0, hz0, hz1, hz2⟩ := info_parts info_R3
        go_loopw [31, 32] (fun v i wr => ∃ k : Nat, k ≤ qq ∧ i = .int .i64 k ∧ (∃ C' c', v = .slice C' k c' ∧ OwnR wr w20.heap.size (.slice C' k c') k (List.replicate k (xa, xt, xm))) ∧ Below w20.heap.size w20 wr) (fun _ i _ => qq - (intOf i).toNat)
        case atStart => exact ⟨0, Nat.zero_le _, rfl, ⟨_, _, rfl, hst0⟩, hal0⟩
        case round =>
          clear hst0 hal0
          obtain ⟨k, hk, rfl, ⟨C', c', rfl, ho⟩, hbw⟩ := hrel
          have hws := hbw.size
          by_cases hlt : k < qq
          · have xk := x.keep hbw
            have e1 := xk.c0
            have e2 := xk.c1
            have e3 := xk.c2
            have hob := ho.lt'
            obtain ⟨xs, hown, hlc, hrow⟩ := ho
            have Hlc := Lib.hid hlc
            have Hnew := Lib.hid (cell_three_new wr (.int .i64 xa) (.int .i64 xt) (.int .i64 xm) 26 wr.heap.size rfl)
            have k1 : (k : Int) < (qq : Int) := by omega
            clear hlc
            go_wp2_with (at_builtin; refine wpList_append_own _ rfl _ _ 37 rfl w20.heap.size 26 i0 (.agg #[.int .i64 0, .int .i64 0, .int .i64 0]) 3 24 Try.underlying37 hi0 hz0 hz1 hz2 rfl (by decide) _ _ _ rfl (hown.alloc _) ⟨wr.heap.size, 0, none⟩ 1 1 [.int .i64 xa, .int .i64 xt, .int .i64 xm] rfl rfl Hnew.out (ints_oneCell .i64 [xa, xt, xm]) (by unfold maxLen; omega) (by omega) (by simp; omega) ?_; intro v1 w6 hown1 hgrow1 _)
            replace hgrow1 : (wr.alloc _).grownBy w6 (Value.slice C' k c').ownBlock := hgrow1
            rw [blk_own] at hgrow1
            obtain ⟨C2, c2', rfl, ho6⟩ := ownR_app (x := (xa, xt, xm)) hown1 Hlc.out hrow
            have hB6 := (hbw.alloc hbw.size _).grown hgrow1 (by simp; omega) (fun j e => (hob j e).1)
            go_roundw
            case rel => exact ⟨k + 1, by omega, by go_num, ⟨_, _, rfl, by rw [List.replicate_succ']; exact ho6⟩, hB6⟩
            case measure => simp [intOf]; omega
          · obtain rfl : k = qq := by omega
            have hG := ho.recs
            have hcap := ownR_cap ho
            have hC' := ownR_or ho
            have HC' := Lib.hid hC'
            have hG0 := hG
            have hb := hbw
            clear hG ho hC' hbw
            (try replace hL := Recs.keep hL hb); (try replace hD := Recs.keep hD hb); (try replace hI := Ints.keep hI hb); (try replace hS := Ints.keep hS hb); (try replace x := B3.keep x hb); (try replace f1 := F2.keep f1 hb); (try replace f2 := F2.keep f2 hb); (try replace hP := Recs.keep hP hb); (try replace hQ := Recs.keep hQ hb); (try replace hG := Recs.keep hG hb); replace hB := belowT hb hB; clear hb
            have hG := hG0
            clear hG0
            go_wp2_with fail
            refine (implHeightOf_any _ _ _ _ _ _ hG (by omega)).mono ?_
            rw [F3.out]
            rintro e w21 ⟨rfl, hb⟩
            (try replace hL := Recs.keep hL hb); (try replace hD := Recs.keep hD hb); (try replace hI := Ints.keep hI hb); (try replace hS := Ints.keep hS hb); (try replace x := B3.keep x hb); (try replace f1 := F2.keep f1 hb); (try replace f2 := F2.keep f2 hb); (try replace hP := Recs.keep hP hb); (try replace hQ := Recs.keep hQ hb); (try replace hG := Recs.keep hG hb); replace hB := belowT hb hB; clear hb
            have hb := (Below.refl w21.heap.size w21).alloc (Nat.le_refl _) (.cells #[.int .i64 nu2, .int .i64 de2] 46)
            (try replace hL := Recs.keep hL hb); (try replace hD := Recs.keep hD hb); (try replace hI := Ints.keep hI hb); (try replace hS := Ints.keep hS hb); (try replace x := B3.keep x hb); (try replace f1 := F2.keep f1 hb); (try replace f2 := F2.keep f2 hb); (try replace hP := Recs.keep hP hb); (try replace hQ := Recs.keep hQ hb); (try replace hG := Recs.keep hG hb); replace hB := belowT hb hB; clear hb
            have f3 := F2.new w21 nu2 de2 46
            generalize hP3 : w21.heap.size = P3 at *
            generalize hw22 : w21.alloc (.cells #[.int .i64 nu2, .int .i64 de2] 46) = w22 at *
            have d1 := f3.c0
            have d2 := f3.c1
            have mb := mulb (x := ht) (y := de2) (A := 2000) (B := 1000) (by omega) (by omega) (by omega) (by omega)
            have wr1 : IntKind.i64.wrap (ht * de2) = ht * de2 := IntWalk.i64_in _ (by omega)
            have t1 : ¬ (nu2 < ht * de2) := by omega
            have t2 : decide (nu2 < ht * de2) = false := decide_eq_false t1
            have t3 : ¬ (de2 < 1) := by omega
            have t4 : decide (de2 < 1) = false := decide_eq_false t3
            have t5 : ¬ (1000 < de2) := by omega
            have t6 : decide (1000 < de2) = false := decide_eq_false t5
            rcases Nat.eq_zero_or_pos k with hk0 | hk0
            · have kp : decide (0 < k) = false := by simp; omega
              have kq : (k : Int) ≤ 0 := by omega
              clear hk0
              · · skip
                  have hbad : bad = 0 ∨ bad ≠ 0 := by omega
                  rcases hbad with rfl | hbad
                  · obtain ⟨ho, hst, rfl, rfl, hq60⟩ := AF.out rfl
                    have hbd := Lib.hid (sums_bd ho ((inB_iff _ _ _).1 hst))
                    have hlen := Lib.hid hL.1
                    go_wp2_with fail
                    have hb0 := hB
                    generalize hwz : w22 = wz at *
                    clear hwz
                    go_loopw [37, 38, 39] (fun a b i wr => ∃ k : Nat, k ≤ q ∧ i = .int .i64 k ∧ a = .int .i64 (sumLo (cs.take k)) ∧ b = .int .i64 (sumHi st (cs.take k)) ∧ Below wz.heap.size wz wr) (fun _ _ i _ => q - (intOf i).toNat)
                    case atStart => exact ⟨0, Nat.zero_le _, rfl, by simp [sumLo], by simp [sumHi], Below.refl _ _⟩
                    case round =>
                      obtain ⟨k, hk, rfl, rfl, rfl, hbw⟩ := hrel
                      have hbk := hbd.out k (by rw [hlen.out]; exact hk)
                      by_cases hlt : k < q
                      · obtain ⟨b, off, y, rfl, hblt, hy, hc0, hc1, hc2⟩ := (hL.keep hbw).at_ hlt
                        obtain ⟨hlv, hle⟩ := lenCV_ok ho hst hy
                        have hbk1 := hbd.out (k + 1) (by rw [hlen.out]; omega)
                        have hs1 : sumLo (cs.take (k + 1)) = sumLo (cs.take k) + y.2.2 * y.1 := by rw [take_snoc' hy, sumLo_snoc]
                        have hs2 : sumHi st (cs.take (k + 1)) = sumHi st (cs.take k) + y.2.2 * mostL y.1 y.2.1 st := by rw [take_snoc' hy, sumHi_snoc]
                        rw [hs1, hs2] at hbk1
                        have H1 := Lib.hid hs1
                        have H2 := Lib.hid hs2
                        have HV := Lib.hid hlv
                        clear hs1 hs2 hlv hy
                        generalize y.2.2 * mostL y.1 y.2.1 st = yb at *
                        generalize y.2.2 * y.1 = ya at *
                        have wr1 : IntKind.i64.wrap (sumLo (cs.take k) + ya) = sumLo (cs.take k) + ya := IntWalk.i64_in _ (by omega)
                        have wr2 : IntKind.i64.wrap (sumHi st (cs.take k) + yb) = sumHi st (cs.take k) + yb := IntWalk.i64_in _ (by omega)
                        have k0 : (0 : Int) ≤ (k : Int) := by omega
                        have k1 : (k : Int) < (q : Int) := by omega
                        have t1 : ¬ (yb < ya) := by omega
                        have t2 : decide (yb < ya) = false := decide_eq_false t1
                        go_wp2_with fail
                        refine (implLengthOfCourse_any _ _ _ _ _).mono ?_
                        rw [HV.out]
                        rintro e wq ⟨rfl, hbq⟩
                        go_wp2_with fail
                        go_roundw
                        case rel => exact ⟨k + 1, by omega, by go_num, by rw [H1.out], by rw [H2.out], belowT hbq hbw⟩
                        case measure => simp [intOf]; omega
                      · obtain rfl : k = q := by omega
                        have hT : cs.take k = cs := List.take_of_length_le (by rw [hlen.out]; omega)
                        have q7 : (sumLo (cs.take k) == sumLo cs) = true := by rw [hT]; simp
                        have q8 : (sumHi st (cs.take k) == sumHi st cs) = true := by rw [hT]; simp
                        clear hT
                        go_wp2_with fail
                        go_ret
                        exact ⟨rfl, belowT hbw hB⟩
                  · have d4 : (bad != 0) = true := by simpa using hbad
                    clear hbad
                    go_wp2_with fail
                    go_ret
                    exact ⟨rfl, hB⟩
            · have kp : decide (0 < k) = true := by simp; omega
              have kq : (0 : Int) < (k : Int) := by omega
              obtain ⟨g, rfl⟩ : ∃ g, C' = some ⟨g, 0, none⟩ := by
                rcases HC'.out with ⟨_, h2, _⟩ | h2
                · omega
                · exact h2
              obtain ⟨nu3, de3, F4, ⟨v1, v2⟩, ⟨v3, v4⟩, v5⟩ := CL.out hk0
              have F4 := Lib.hid F4
              have hRb := hG.drop1 hk0
              rw [List.drop_replicate] at hRb
              have mc := mulb (x := ht) (y := de3) (A := 2000) (B := 1000) (by omega) (by omega) (by omega) (by omega)
              have wr5 : IntKind.i64.wrap (ht * de3) = ht * de3 := IntWalk.i64_in _ (by omega)
              go_wp2_with fail
              all_goals
                clear hP3 hw22
                clear d1 d2 wr1 t1 t2 t3 t4 t5 t6 mb
                refine (implHeightOf_any _ _ _ (List.replicate (k - 1) (xa, xt, xm)) _ _ (by first | exact hRb | exact ⟨by simp, fun h => absurd h (by omega)⟩) (by omega)).mono ?_
                rw [F4.out]
                rintro e w23 ⟨rfl, hb⟩
                (try replace hL := Recs.keep hL hb); (try replace hD := Recs.keep hD hb); (try replace hI := Ints.keep hI hb); (try replace hS := Ints.keep hS hb); (try replace x := B3.keep x hb); (try replace f1 := F2.keep f1 hb); (try replace f2 := F2.keep f2 hb); (try replace hP := Recs.keep hP hb); (try replace hQ := Recs.keep hQ hb); (try replace hG := Recs.keep hG hb); replace hB := belowT hb hB; clear hb
                have hb := (Below.refl w23.heap.size w23).alloc (Nat.le_refl _) (.cells #[.int .i64 nu3, .int .i64 de3] 46)
                (try replace hL := Recs.keep hL hb); (try replace hD := Recs.keep hD hb); (try replace hI := Ints.keep hI hb); (try replace hS := Ints.keep hS hb); (try replace x := B3.keep x hb); (try replace f1 := F2.keep f1 hb); (try replace f2 := F2.keep f2 hb); (try replace hP := Recs.keep hP hb); (try replace hQ := Recs.keep hQ hb); (try replace hG := Recs.keep hG hb); replace hB := belowT hb hB; clear hb
                have f4 := F2.new w23 nu3 de3 46
                generalize hP4 : w23.heap.size = P4 at *
                generalize hw24 : w23.alloc (.cells #[.int .i64 nu3, .int .i64 de3] 46) = w24 at *
                have d1 := f4.c0
                have d2 := f4.c1
                have t1 : ¬ (ht * de3 ≤ nu3) := by omega
                have t2 : decide (ht * de3 ≤ nu3) = false := decide_eq_false t1
                have t3 : ¬ (de3 < 1) := by omega
                have t4 : decide (de3 < 1) = false := decide_eq_false t3
                have t5 : ¬ (1000 < de3) := by omega
                have t6 : decide (1000 < de3) = false := decide_eq_false t5
                · · skip
                    have hbad : bad = 0 ∨ bad ≠ 0 := by omega
                    rcases hbad with rfl | hbad
                    · obtain ⟨ho, hst, rfl, rfl, hq60⟩ := AF.out rfl
                      have hbd := Lib.hid (sums_bd ho ((inB_iff _ _ _).1 hst))
                      have hlen := Lib.hid hL.1
                      go_wp2_with fail
                      have hb0 := hB
                      generalize hwz : w24 = wz at *
                      clear hwz
                      go_loopw [37, 38, 39] (fun a b i wr => ∃ k : Nat, k ≤ q ∧ i = .int .i64 k ∧ a = .int .i64 (sumLo (cs.take k)) ∧ b = .int .i64 (sumHi st (cs.take k)) ∧ Below wz.heap.size wz wr) (fun _ _ i _ => q - (intOf i).toNat)
                      case atStart => exact ⟨0, Nat.zero_le _, rfl, by simp [sumLo], by simp [sumHi], Below.refl _ _⟩
                      case round =>
                        obtain ⟨k, hk, rfl, rfl, rfl, hbw⟩ := hrel
                        have hbk := hbd.out k (by rw [hlen.out]; exact hk)
                        by_cases hlt : k < q
                        · obtain ⟨b, off, y, rfl, hblt, hy, hc0, hc1, hc2⟩ := (hL.keep hbw).at_ hlt
                          obtain ⟨hlv, hle⟩ := lenCV_ok ho hst hy
                          have hbk1 := hbd.out (k + 1) (by rw [hlen.out]; omega)
                          have hs1 : sumLo (cs.take (k + 1)) = sumLo (cs.take k) + y.2.2 * y.1 := by rw [take_snoc' hy, sumLo_snoc]
                          have hs2 : sumHi st (cs.take (k + 1)) = sumHi st (cs.take k) + y.2.2 * mostL y.1 y.2.1 st := by rw [take_snoc' hy, sumHi_snoc]
                          rw [hs1, hs2] at hbk1
                          have H1 := Lib.hid hs1
                          have H2 := Lib.hid hs2
                          have HV := Lib.hid hlv
                          clear hs1 hs2 hlv hy
                          generalize y.2.2 * mostL y.1 y.2.1 st = yb at *
                          generalize y.2.2 * y.1 = ya at *
                          have wr1 : IntKind.i64.wrap (sumLo (cs.take k) + ya) = sumLo (cs.take k) + ya := IntWalk.i64_in _ (by omega)
                          have wr2 : IntKind.i64.wrap (sumHi st (cs.take k) + yb) = sumHi st (cs.take k) + yb := IntWalk.i64_in _ (by omega)
                          have k0 : (0 : Int) ≤ (k : Int) := by omega
                          have k1 : (k : Int) < (q : Int) := by omega
                          have t1 : ¬ (yb < ya) := by omega
                          have t2 : decide (yb < ya) = false := decide_eq_false t1
                          go_wp2_with fail
                          refine (implLengthOfCourse_any _ _ _ _ _).mono ?_
                          rw [HV.out]
                          rintro e wq ⟨rfl, hbq⟩
                          go_wp2_with fail
                          go_roundw
                          case rel => exact ⟨k + 1, by omega, by go_num, by rw [H1.out], by rw [H2.out], belowT hbq hbw⟩
                          case measure => simp [intOf]; omega
                        · obtain rfl : k = q := by omega
                          have hT : cs.take k = cs := List.take_of_length_le (by rw [hlen.out]; omega)
                          have q7 : (sumLo (cs.take k) == sumLo cs) = true := by rw [hT]; simp
                          have q8 : (sumHi st (cs.take k) == sumHi st cs) = true := by rw [hT]; simp
                          clear hT
                          go_wp2_with fail
                          go_ret
                          exact ⟨rfl, belowT hbw hB⟩
                    · have d4 : (bad != 0) = true := by simpa using hbad
                      clear hbad
                      go_wp2_with fail
                      go_ret
                      exact ⟨rfl, hB⟩
      · have d5 : (three == 0) = false := by rw [beq_eq_false_iff_ne]; exact hthree
        clear hthree CF CE
        · · · · · skip
                  have hbad : bad = 0 ∨ bad ≠ 0 := by omega
                  rcases hbad with rfl | hbad
                  · obtain ⟨ho, hst, rfl, rfl, hq60⟩ := AF.out rfl
                    have hbd := Lib.hid (sums_bd ho ((inB_iff _ _ _).1 hst))
                    have hlen := Lib.hid hL.1
                    go_wp2_with fail
                    have hb0 := hB
                    generalize hwz : w20 = wz at *
                    clear hwz
                    go_loopw [37, 38, 39] (fun a b i wr => ∃ k : Nat, k ≤ q ∧ i = .int .i64 k ∧ a = .int .i64 (sumLo (cs.take k)) ∧ b = .int .i64 (sumHi st (cs.take k)) ∧ Below wz.heap.size wz wr) (fun _ _ i _ => q - (intOf i).toNat)
                    case atStart => exact ⟨0, Nat.zero_le _, rfl, by simp [sumLo], by simp [sumHi], Below.refl _ _⟩
                    case round =>
                      obtain ⟨k, hk, rfl, rfl, rfl, hbw⟩ := hrel
                      have hbk := hbd.out k (by rw [hlen.out]; exact hk)
                      by_cases hlt : k < q
                      · obtain ⟨b, off, y, rfl, hblt, hy, hc0, hc1, hc2⟩ := (hL.keep hbw).at_ hlt
                        obtain ⟨hlv, hle⟩ := lenCV_ok ho hst hy
                        have hbk1 := hbd.out (k + 1) (by rw [hlen.out]; omega)
                        have hs1 : sumLo (cs.take (k + 1)) = sumLo (cs.take k) + y.2.2 * y.1 := by rw [take_snoc' hy, sumLo_snoc]
                        have hs2 : sumHi st (cs.take (k + 1)) = sumHi st (cs.take k) + y.2.2 * mostL y.1 y.2.1 st := by rw [take_snoc' hy, sumHi_snoc]
                        rw [hs1, hs2] at hbk1
                        have H1 := Lib.hid hs1
                        have H2 := Lib.hid hs2
                        have HV := Lib.hid hlv
                        clear hs1 hs2 hlv hy
                        generalize y.2.2 * mostL y.1 y.2.1 st = yb at *
                        generalize y.2.2 * y.1 = ya at *
                        have wr1 : IntKind.i64.wrap (sumLo (cs.take k) + ya) = sumLo (cs.take k) + ya := IntWalk.i64_in _ (by omega)
                        have wr2 : IntKind.i64.wrap (sumHi st (cs.take k) + yb) = sumHi st (cs.take k) + yb := IntWalk.i64_in _ (by omega)
                        have k0 : (0 : Int) ≤ (k : Int) := by omega
                        have k1 : (k : Int) < (q : Int) := by omega
                        have t1 : ¬ (yb < ya) := by omega
                        have t2 : decide (yb < ya) = false := decide_eq_false t1
                        go_wp2_with fail
                        refine (implLengthOfCourse_any _ _ _ _ _).mono ?_
                        rw [HV.out]
                        rintro e wq ⟨rfl, hbq⟩
                        go_wp2_with fail
                        go_roundw
                        case rel => exact ⟨k + 1, by omega, by go_num, by rw [H1.out], by rw [H2.out], belowT hbq hbw⟩
                        case measure => simp [intOf]; omega
                      · obtain rfl : k = q := by omega
                        have hT : cs.take k = cs := List.take_of_length_le (by rw [hlen.out]; omega)
                        have q7 : (sumLo (cs.take k) == sumLo cs) = true := by rw [hT]; simp
                        have q8 : (sumHi st (cs.take k) == sumHi st cs) = true := by rw [hT]; simp
                        clear hT
                        go_wp2_with fail
                        go_ret
                        exact ⟨rfl, belowT hbw hB⟩
                  · have d4 : (bad != 0) = true := by simpa using hbad
                    clear hbad
                    go_wp2_with fail
                    go_ret
                    exact ⟨rfl, hB⟩
end Go.Proofs.Ytelbedmfnmjehaa
