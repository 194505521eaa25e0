/- FnSeats: the law. -/
import Derived.Test.YtgjjmgneekjapaaDoorSeaG
import Derived.Test.YtgjjmgneekjapaaDoorSeaF
import Derived.Test.YtgjjmgneekjapaaDoorSeaT
import Derived.Test.YtgjjmgneekjapaaDoorF6
namespace Go.Proofs.YtgjjmgneekjapaaDoor
open Go.RowKit
set_option linter.unusedVariables false
set_option linter.unusedSimpArgs false

theorem OwnP.row {w : World} {base n c : Nat} {A : Option Addr} {ps : List (Int × Int)} (h : OwnP w base (.slice A n c) n ps) {k : Nat} (hk : k < n) :
    ∃ b g p, A = some ⟨b, 0, none⟩ ∧ ps[k]? = some p ∧ w.cell? ⟨b, k, none⟩ = some (.slice (some ⟨g, 0, none⟩) 2 2) ∧ Ints w (some ⟨g, 0, none⟩) 2 [p.1, p.2] := by
  obtain ⟨b, g, p, e, hp, a1, a2, a3, _, _, _⟩ := h.at_ hk
  refine ⟨b, g, p, e, hp, a1, rfl, fun _ => ⟨g, 0, rfl, World.block_lt_of_cell? _ _ a2, fun j z hz => ?_⟩⟩
  match j, hz with
  | 0, hz => simp at hz; subst hz; exact a2
  | 1, hz => simp at hz; subst hz; exact a3
theorem f6ints_yes (A B : Option Addr) (n c d : Nat) (zs : List Int) (w : World) (h : Ints w A n zs) (g : Ints w B n zs) (hn : n ≤ 1048576) : Calls Tryd.prog 23 #[.slice A n c, .slice B n d] w fun e w' => e = .returned (.bool true) ∧ ∃ q, w' = w.drewN q :=
  (f6ints_any _ _ _ _ _ _ _ _ _ h g hn hn).mono fun _ _ ⟨e, q⟩ => ⟨by rw [e]; simp, q⟩

theorem f6ints_b (A B : Option Addr) (n c d : Nat) (zs : List Int) (w : World) (h : Ints w A n zs) (g : Ints w B n zs) (hn : n ≤ 1048576) : Calls Tryd.prog 23 #[.slice A n c, .slice B n d] w fun e w' => e = .returned (.bool true) ∧ Below w.heap.size w w' :=
  (f6ints_yes _ _ _ _ _ _ _ h g hn).mono fun _ _ ⟨e, q, hq⟩ => ⟨e, hq ▸ drew_below w q⟩
theorem specValidSeat_v (f b s : Int) (v : Bool) (w : World) (hv : okSeat f b s = v) : Calls Tryd.prog 25 #[.agg #[.int .i64 f, .int .i64 b, .int .i64 s]] w fun e w' => e = .returned (.bool v) ∧ Below w.heap.size w w' := by
  subst hv; exact specValidSeat_any _ _ _ _
theorem implSeatText_v (f b s : Int) (t : ByteArray) (w : World) (ht : seatT f b s = t) : Calls Tryd.prog 7 #[.agg #[.int .i64 f, .int .i64 b, .int .i64 s]] w fun e w' => e = .returned (.string t) ∧ Below w.heap.size w w' := by
  subst ht; exact implSeatText_any _ _ _ _
theorem specSeatText_v (f b s : Int) (t : ByteArray) (w : World) (ht : seatT f b s = t) : Calls Tryd.prog 5 #[.agg #[.int .i64 f, .int .i64 b, .int .i64 s]] w fun e w' => e = .returned (.string t) ∧ Below w.heap.size w w' := by
  subst ht; exact specSeatText_any _ _ _ _
set_option maxRecDepth 100000 in
set_option maxHeartbeats 8000000 in
theorem law_FnSeats (w : World) (A : Option Addr) (n c : Nat) (zs : List Int) (h0 : IsInts .u8 w A n zs) : Calls Tryd.prog 4 #[.slice A n c] w fun e w' => e = .returned (.bool true) ∧ Below w.heap.size w w' := by
  have hY := bytes_of h0
  cases hbig : decide (4096 < n)
  case true =>
    go_enter Tryd.func4, Tryd.ntmps4
    go_wp2_with fail
    refine (f6big_any _ _ _ true _ hY.1 hbig).mono ?_
    rintro e w' ⟨rfl, rfl⟩
    go_wp2_with fail
    go_ret
    exact ⟨rfl, Below.refl _ _⟩
  go_enter Tryd.func4, Tryd.ntmps4
  go_wp2_with fail
  refine (f6big_any _ _ _ false _ hY.1 hbig).mono ?_
  rintro e w' ⟨rfl, rfl⟩
  clear hbig
  go_wp2_with fail
  refine (drawPairsOf_any _ _ _ _ hY).mono ?_
  rintro e w1 ⟨xf, xb, xs, st, rfl, hB⟩
  go_wp2_with fail
  have x := B3.new w1 xf xb xs 25
  replace hB := hB.alloc hB.size (.cells #[.int .i64 xf, .int .i64 xb, .int .i64 xs] 25)
  generalize w1.heap.size = X at *
  generalize w1.alloc (.cells #[.int .i64 xf, .int .i64 xb, .int .i64 xs] 25) = w2 at *
  have HPL := Lib.hid (show strandsV xf xb xs st = (((pairsV xf xb xs st).length : Int), codeP xf xb xs st) from rfl)
  have HPB := Lib.hid (pairsV_len xf xb xs st)
  obtain ⟨bad, hbad⟩ : ∃ b, codeP xf xb xs st = b := ⟨_, rfl⟩
  rw [hbad] at HPL
  have Hbad := Lib.hid hbad
  clear hbad
  have e1 := x.c0; have e2 := x.c1; have e3 := x.c2
  go_wp2_with fail
  refine (implPairsOf_any _ _ _ _ _).mono ?_
  rw [Hbad.out]
  rintro e w3 ⟨PA, np, pc, rfl, hO, hb⟩
  clear e1 e2 e3
  (try replace x := B3.keep x hb); (try replace y := B3.keep y hb); (try replace z := B3.keep z hb); (try replace u := B3.keep u hb); (try replace hP := OwnP.keep hP hb); (try replace hQ := OwnP.keep hQ hb); (try replace hI := Ints.keep hI hb); (try replace hS := Ints.keep hS hb); (try replace hK := Ints.keep hK hb); (try replace hM := Ints.keep hM hb); replace hB := belowT hb hB; clear hb
  have hP := hO
  clear hO
  have e1 := x.c0; have e2 := x.c1; have e3 := x.c2
  go_wp2_with fail
  refine (specPairsOf_any _ _ _ _ _).mono ?_
  rw [Hbad.out]
  rintro e w4 ⟨QA, nq, qc, rfl, hO, hb⟩
  obtain rfl : nq = np := hO.len.symm.trans hP.len
  clear e1 e2 e3
  (try replace x := B3.keep x hb); (try replace y := B3.keep y hb); (try replace z := B3.keep z hb); (try replace u := B3.keep u hb); (try replace hP := OwnP.keep hP hb); (try replace hQ := OwnP.keep hQ hb); (try replace hI := Ints.keep hI hb); (try replace hS := Ints.keep hS hb); (try replace hK := Ints.keep hK hb); (try replace hM := Ints.keep hM hb); replace hB := belowT hb hB; clear hb
  have hQ := hO
  clear hO
  have hn40 : nq ≤ 40 := by rw [← hP.len]; exact HPB.out
  have HSV := Lib.hid (show strandsV xf xb xs st = ((nq : Int), bad) by rw [HPL.out, hP.len])
  clear HPL HPB
  have e1 := x.c0; have e2 := x.c1; have e3 := x.c2
  go_wp2_with fail
  refine (implStrandsOf_any _ _ _ _ _).mono ?_
  rw [HSV.out]
  rintro e w5 ⟨rfl, hb⟩
  clear e1 e2 e3
  (try replace x := B3.keep x hb); (try replace y := B3.keep y hb); (try replace z := B3.keep z hb); (try replace u := B3.keep u hb); (try replace hP := OwnP.keep hP hb); (try replace hQ := OwnP.keep hQ hb); (try replace hI := Ints.keep hI hb); (try replace hS := Ints.keep hS hb); (try replace hK := Ints.keep hK hb); (try replace hM := Ints.keep hM hb); replace hB := belowT hb hB; clear hb
  have e1 := x.c0; have e2 := x.c1; have e3 := x.c2
  go_wp2_with fail
  refine (specStrandsOf_any _ _ _ _ _).mono ?_
  rw [HSV.out]
  rintro e w6 ⟨rfl, hb⟩
  clear e1 e2 e3
  (try replace x := B3.keep x hb); (try replace y := B3.keep y hb); (try replace z := B3.keep z hb); (try replace u := B3.keep u hb); (try replace hP := OwnP.keep hP hb); (try replace hQ := OwnP.keep hQ hb); (try replace hI := Ints.keep hI hb); (try replace hS := Ints.keep hS hb); (try replace hK := Ints.keep hK hb); (try replace hM := Ints.keep hM hb); replace hB := belowT hb hB; clear hb
  clear HSV Hbad
  go_wp2_with fail
  refine (drawStrandsAt_any _ _ _ _ ((hY.keep hB).mono hB.size)).mono ?_
  rintro e w7 ⟨af, ab, ay, ks, rfl, hb⟩
  (try replace x := B3.keep x hb); (try replace y := B3.keep y hb); (try replace z := B3.keep z hb); (try replace u := B3.keep u hb); (try replace hP := OwnP.keep hP hb); (try replace hQ := OwnP.keep hQ hb); (try replace hI := Ints.keep hI hb); (try replace hS := Ints.keep hS hb); (try replace hK := Ints.keep hK hb); (try replace hM := Ints.keep hM hb); replace hB := belowT hb hB; clear hb
  go_wp2_with fail
  have hb := (Below.refl w7.heap.size w7).alloc (Nat.le_refl _) (.cells #[.int .i64 af, .int .i64 ab, .int .i64 ay] 25)
  have y0 := B3.new w7 af ab ay 25
  (try replace x := B3.keep x hb); (try replace y := B3.keep y hb); (try replace z := B3.keep z hb); (try replace u := B3.keep u hb); (try replace hP := OwnP.keep hP hb); (try replace hQ := OwnP.keep hQ hb); (try replace hI := Ints.keep hI hb); (try replace hS := Ints.keep hS hb); (try replace hK := Ints.keep hK hb); (try replace hM := Ints.keep hM hb); replace hB := belowT hb hB; clear hb
  have y := y0
  clear y0
  generalize w7.heap.size = Y at *
  generalize w7.alloc (.cells #[.int .i64 af, .int .i64 ab, .int .i64 ay] 25) = w8 at *
  have AO := Lib.hid (atV_ok (f := af) (b := ab) (s := ay) (n := ks))
  have AN := Lib.hid (atV_nonneg (f := af) (b := ab) (s := ay) (n := ks))
  have AB := Lib.hid (atV_len af ab ay ks)
  have AE := Lib.hid (show atV af ab ay ks = ((atV af ab ay ks).1, (atV af ab ay ks).2) from rfl)
  generalize (atV af ab ay ks).1 = al at *
  generalize (atV af ab ay ks).2 = three at *
  have e1 := y.c0; have e2 := y.c1; have e3 := y.c2
  go_wp2_with fail
  refine (implStrandsAt_any _ _ _ _ _).mono ?_
  rw [AE.out]
  rintro e w9 ⟨IA, ni, ic, rfl, hO, hb⟩
  clear e1 e2 e3
  (try replace x := B3.keep x hb); (try replace y := B3.keep y hb); (try replace z := B3.keep z hb); (try replace u := B3.keep u hb); (try replace hP := OwnP.keep hP hb); (try replace hQ := OwnP.keep hQ hb); (try replace hI := Ints.keep hI hb); (try replace hS := Ints.keep hS hb); (try replace hK := Ints.keep hK hb); (try replace hM := Ints.keep hM hb); replace hB := belowT hb hB; clear hb
  have hI := OwnI.ints hO
  clear hO
  have e1 := y.c0; have e2 := y.c1; have e3 := y.c2
  go_wp2_with fail
  refine (specStrandsAt_any _ _ _ _ _).mono ?_
  rw [AE.out]
  rintro e w10 ⟨SA, ns, sc, rfl, hO, hb⟩
  clear e1 e2 e3
  (try replace x := B3.keep x hb); (try replace y := B3.keep y hb); (try replace z := B3.keep z hb); (try replace u := B3.keep u hb); (try replace hP := OwnP.keep hP hb); (try replace hQ := OwnP.keep hQ hb); (try replace hI := Ints.keep hI hb); (try replace hS := Ints.keep hS hb); (try replace hK := Ints.keep hK hb); (try replace hM := Ints.keep hM hb); replace hB := belowT hb hB; clear hb
  have hS := OwnI.ints hO
  clear hO
  obtain rfl : ns = ni := hS.1.symm.trans hI.1
  have hns : ns ≤ 1048576 := by rw [← hS.1]; exact AB.out
  clear AB
  go_wp2_with fail
  refine (drawHolesOf_any _ _ _ _ ((hY.keep hB).mono hB.size)).mono ?_
  rintro e w11 ⟨hf, hk, hs, rfl, hb⟩
  (try replace x := B3.keep x hb); (try replace y := B3.keep y hb); (try replace z := B3.keep z hb); (try replace u := B3.keep u hb); (try replace hP := OwnP.keep hP hb); (try replace hQ := OwnP.keep hQ hb); (try replace hI := Ints.keep hI hb); (try replace hS := Ints.keep hS hb); (try replace hK := Ints.keep hK hb); (try replace hM := Ints.keep hM hb); replace hB := belowT hb hB; clear hb
  go_wp2_with fail
  have hb := (Below.refl w11.heap.size w11).alloc (Nat.le_refl _) (.cells #[.int .i64 hf, .int .i64 hk, .int .i64 hs] 25)
  have z0 := B3.new w11 hf hk hs 25
  (try replace x := B3.keep x hb); (try replace y := B3.keep y hb); (try replace z := B3.keep z hb); (try replace u := B3.keep u hb); (try replace hP := OwnP.keep hP hb); (try replace hQ := OwnP.keep hQ hb); (try replace hI := Ints.keep hI hb); (try replace hS := Ints.keep hS hb); (try replace hK := Ints.keep hK hb); (try replace hM := Ints.keep hM hb); replace hB := belowT hb hB; clear hb
  have z := z0
  clear z0
  generalize w11.heap.size = Z at *
  generalize w11.alloc (.cells #[.int .i64 hf, .int .i64 hk, .int .i64 hs] 25) = w12 at *
  obtain ⟨holes, ho1⟩ : ∃ v, (holesV hf hk hs).1 = v := ⟨_, rfl⟩
  obtain ⟨five, ho2⟩ : ∃ v, (holesV hf hk hs).2 = v := ⟨_, rfl⟩
  have HO1 := Lib.hid ho1
  have HO2 := Lib.hid ho2
  clear ho1 ho2
  have e1 := z.c0; have e2 := z.c1; have e3 := z.c2
  go_wp2_with fail
  refine (implHolesOf_any _ _ _ _).mono ?_
  rw [HO1.out, HO2.out]
  rintro e w13 ⟨rfl, hb⟩
  clear e1 e2 e3
  (try replace x := B3.keep x hb); (try replace y := B3.keep y hb); (try replace z := B3.keep z hb); (try replace u := B3.keep u hb); (try replace hP := OwnP.keep hP hb); (try replace hQ := OwnP.keep hQ hb); (try replace hI := Ints.keep hI hb); (try replace hS := Ints.keep hS hb); (try replace hK := Ints.keep hK hb); (try replace hM := Ints.keep hM hb); replace hB := belowT hb hB; clear hb
  have e1 := z.c0; have e2 := z.c1; have e3 := z.c2
  go_wp2_with fail
  refine (specHolesOf_any _ _ _ _).mono ?_
  rw [HO1.out, HO2.out]
  rintro e w14 ⟨rfl, hb⟩
  clear e1 e2 e3
  (try replace x := B3.keep x hb); (try replace y := B3.keep y hb); (try replace z := B3.keep z hb); (try replace u := B3.keep u hb); (try replace hP := OwnP.keep hP hb); (try replace hQ := OwnP.keep hQ hb); (try replace hI := Ints.keep hI hb); (try replace hS := Ints.keep hS hb); (try replace hK := Ints.keep hK hb); (try replace hM := Ints.keep hM hb); replace hB := belowT hb hB; clear hb
  clear HO1 HO2
  go_wp2_with fail
  refine (drawBrokenStrands_any _ _ _ _ ((hY.keep hB).mono hB.size)).mono ?_
  rintro e w15 ⟨cf, cb, cs, hole, rfl, hb⟩
  (try replace x := B3.keep x hb); (try replace y := B3.keep y hb); (try replace z := B3.keep z hb); (try replace u := B3.keep u hb); (try replace hP := OwnP.keep hP hb); (try replace hQ := OwnP.keep hQ hb); (try replace hI := Ints.keep hI hb); (try replace hS := Ints.keep hS hb); (try replace hK := Ints.keep hK hb); (try replace hM := Ints.keep hM hb); replace hB := belowT hb hB; clear hb
  go_wp2_with fail
  have hb := (Below.refl w15.heap.size w15).alloc (Nat.le_refl _) (.cells #[.int .i64 cf, .int .i64 cb, .int .i64 cs] 25)
  have u0 := B3.new w15 cf cb cs 25
  (try replace x := B3.keep x hb); (try replace y := B3.keep y hb); (try replace z := B3.keep z hb); (try replace u := B3.keep u hb); (try replace hP := OwnP.keep hP hb); (try replace hQ := OwnP.keep hQ hb); (try replace hI := Ints.keep hI hb); (try replace hS := Ints.keep hS hb); (try replace hK := Ints.keep hK hb); (try replace hM := Ints.keep hM hb); replace hB := belowT hb hB; clear hb
  have u := u0
  clear u0
  generalize w15.heap.size = U at *
  generalize w15.alloc (.cells #[.int .i64 cf, .int .i64 cb, .int .i64 cs] 25) = w16 at *
  have BO := Lib.hid (brkV_ok (f := cf) (b := cb) (s := cs) (h := hole))
  have BB := Lib.hid (brkV_len cf cb cs hole)
  have BE := Lib.hid (show brkV cf cb cs hole = ((brkV cf cb cs hole).1, (brkV cf cb cs hole).2) from rfl)
  generalize (brkV cf cb cs hole).1 = bl at *
  generalize (brkV cf cb cs hole).2 = seven at *
  have e1 := u.c0; have e2 := u.c1; have e3 := u.c2
  go_wp2_with fail
  refine (implBrokenStrands_any _ _ _ _ _).mono ?_
  rw [BE.out]
  rintro e w17 ⟨KA, nk, kcap, rfl, hO, hb⟩
  clear e1 e2 e3
  (try replace x := B3.keep x hb); (try replace y := B3.keep y hb); (try replace z := B3.keep z hb); (try replace u := B3.keep u hb); (try replace hP := OwnP.keep hP hb); (try replace hQ := OwnP.keep hQ hb); (try replace hI := Ints.keep hI hb); (try replace hS := Ints.keep hS hb); (try replace hK := Ints.keep hK hb); (try replace hM := Ints.keep hM hb); replace hB := belowT hb hB; clear hb
  have hK := OwnI.ints hO
  clear hO
  have e1 := u.c0; have e2 := u.c1; have e3 := u.c2
  go_wp2_with fail
  refine (specBrokenStrands_any _ _ _ _ _).mono ?_
  rw [BE.out]
  rintro e w18 ⟨MA, nm, mcap, rfl, hO, hb⟩
  clear e1 e2 e3
  (try replace x := B3.keep x hb); (try replace y := B3.keep y hb); (try replace z := B3.keep z hb); (try replace u := B3.keep u hb); (try replace hP := OwnP.keep hP hb); (try replace hQ := OwnP.keep hQ hb); (try replace hI := Ints.keep hI hb); (try replace hS := Ints.keep hS hb); (try replace hK := Ints.keep hK hb); (try replace hM := Ints.keep hM hb); replace hB := belowT hb hB; clear hb
  have hM := OwnI.ints hO
  clear hO
  obtain rfl : nm = nk := hM.1.symm.trans hK.1
  have hnm : nm ≤ 1048576 := by rw [← hM.1]; exact BB.out
  clear BB
  have p1 : (bad != bad) = false := by simp
  have p2 : ((nq : Int) != (nq : Int)) = false := by simp
  have p3 : (three != three) = false := by simp
  have p4 : (five != five) = false := by simp
  have p5 : (holes != holes) = false := by simp
  have p6 : (seven != seven) = false := by simp
  obtain ⟨vv, hvv⟩ : ∃ v, okSeat xf xb xs = v := ⟨_, rfl⟩
  have HV := Lib.hid hvv
  clear hvv
  have p7 : (vv != vv) = false := by simp
  obtain ⟨t, ht⟩ : ∃ t, seatT hf hk hs = t := ⟨_, rfl⟩
  have HT := Lib.hid ht
  clear ht
  have htt : (t.toList == t.toList) = true := by simp
  have HI := Lib.hid hI
  have HS := Lib.hid hS
  have HK := Lib.hid hK
  have HM := Lib.hid hM
  have HP := Lib.hid hP
  have HQ := Lib.hid hQ
  have HY' := Lib.hid y
  have HU := Lib.hid u
  have HBB := Lib.hid hB
  have g1 := x.c0
  have g2 := x.c1
  have g3 := x.c2
  have g4 := z.c0
  have g5 := z.c1
  have g6 := z.c2
  have g7 := Below.refl w18.heap.size w18
  clear hI hS hK hM hP hQ x y z u hB
  go_wp2_with fail
  dsimp only [List.append]
  go_region_held3 (fun w' => w'.cell? ⟨X, 0, none⟩ = some (.int .i64 xf) ∧ w'.cell? ⟨X, 1, none⟩ = some (.int .i64 xb) ∧ w'.cell? ⟨X, 2, none⟩ = some (.int .i64 xs) ∧ w'.cell? ⟨Z, 0, none⟩ = some (.int .i64 hf) ∧ w'.cell? ⟨Z, 1, none⟩ = some (.int .i64 hk) ∧ w'.cell? ⟨Z, 2, none⟩ = some (.int .i64 hs) ∧ Below w18.heap.size w18 w')
    (((try go_split_ands); (try dsimp only); (repeat' apply And.intro)) <;> first | assumption | exact keepd (by assumption) | exact Below.drew (by assumption) | exact keepc hb2 (by assumption) | exact belowT hb2 (by assumption))
    (first | (go_at_call 23; (with_reducible refine (f6ints_b IA SA ns _ _ al _ (Ints.keep HI.out (by go_split_ands; assumption)) (Ints.keep HS.out (by go_split_ands; assumption)) hns).mono ?_); rintro e w' ⟨rfl, hb2⟩) | (go_at_call 23; (with_reducible refine (f6ints_b KA MA nm _ _ bl _ (Ints.keep HK.out (by go_split_ands; assumption)) (Ints.keep HM.out (by go_split_ands; assumption)) hnm).mono ?_); rintro e w' ⟨rfl, hb2⟩) | (go_at_call 24; refine (validSeat_v _ _ _ vv _ HV.out).mono ?_; rintro e w' ⟨rfl, hb2⟩) | (go_at_call 25; refine (specValidSeat_v _ _ _ vv _ HV.out).mono ?_; rintro e w' ⟨rfl, hb2⟩) | (go_at_call 7; refine (implSeatText_v _ _ _ t _ HT.out).mono ?_; rintro e w' ⟨rfl, hb2⟩) | (go_at_call 5; refine (specSeatText_v _ _ _ t _ HT.out).mono ?_; rintro e w' ⟨rfl, hb2⟩))
  have gB : Below w18.heap.size w18 w' := by go_split_ands; assumption
  have hP := HP.out.keep gB
  have hQ := HQ.out.keep gB
  have hS := HS.out.keep gB
  have hM := HM.out.keep gB
  have y := HY'.out.keep gB
  have u := HU.out.keep gB
  have hB := belowT gB HBB.out
  clear HI HS HK HM HP HQ HY' HU HBB HV HT gB
  generalize w' = w24 at *
  go_wp2_with fail
  clear p3 p4 p5 p6 p7 htt
  go_loopw [30] (fun i wr => ∃ k : Nat, k ≤ nq ∧ i = .int .i64 k ∧ Below w24.heap.size w24 wr) (fun i _ => nq - (intOf i).toNat)
  case atStart => exact ⟨0, Nat.zero_le _, rfl, Below.refl _ _⟩
  case round =>
    obtain ⟨k, hk, rfl, hb⟩ := hrel
    by_cases hlt : k < nq
    · obtain ⟨b, g1, p, rfl, hp, hc, hi⟩ := (hP.keep hb).row hlt
      obtain ⟨b', g2, p', rfl, hp', hc', hi'⟩ := (hQ.keep hb).row hlt
      obtain rfl : p = p' := by rw [hp] at hp'; injection hp'
      have k0 : (0 : Int) ≤ (k : Int) := by omega
      have k1 : (k : Int) < (nq : Int) := by omega
      have Hi := Lib.hid hi
      have Hi' := Lib.hid hi'
      clear hp hp' hi hi' hP hQ hS hM y u
      go_wp2
      go_quiet ((go_at_call 23; exact Calls.quiet_of (f6ints_yes _ _ _ _ _ _ _ (Hi.out.drewN _) (Hi'.out.drewN _) (by omega))))
      go_wp2
      go_roundw
      case rel => exact ⟨k + 1, by omega, by go_num, below_drewN hb _⟩
      case measure => simp [intOf]; omega
    · obtain rfl : k = nq := by omega
      clear hP hQ
      (try replace x := B3.keep x hb); (try replace y := B3.keep y hb); (try replace z := B3.keep z hb); (try replace u := B3.keep u hb); (try replace hP := OwnP.keep hP hb); (try replace hQ := OwnP.keep hQ hb); (try replace hI := Ints.keep hI hb); (try replace hS := Ints.keep hS hb); (try replace hK := Ints.keep hK hb); (try replace hM := Ints.keep hM hb); replace hB := belowT hb hB; clear hb
      generalize hw25 : wr = w25 at *
      clear hw25
      have hbad2 : (bad == 0) = true ∨ (bad == 0) = false := by cases (bad == 0) <;> simp
      rcases hbad2 with hbad2 | hbad2
      all_goals
        have h3 : three = 0 ∨ three ≠ 0 := by omega
        rcases h3 with rfl | h3
        · obtain ⟨g1, g2, g3, g4, g5, g6⟩ := AO.out rfl
          have G1 := Lib.hid g1
          have G4 := Lib.hid g4
          have G7 := Lib.hid ((okSeat_iff _ _ _).1 g1)
          clear g1 g4 g5
          obtain ⟨ks, rfl⟩ := Int.eq_ofNat_of_zero_le g2
          have hk6 : ks ≤ 6 := by omega
          go_wp2_with fail
          go_loopw [31, 32] (fun v i wr => ∃ j : Nat, j ≤ ks ∧ i = .int .i64 ((j : Int) + 1) ∧ v = .int .i64 (sumS af.toNat ay.toNat j) ∧ Below w25.heap.size w25 wr) (fun _ i _ => ks + 2 - (intOf i).toNat)
          case atStart => exact ⟨0, Nat.zero_le _, rfl, by simp [sumS], Below.refl _ _⟩
          case round =>
            obtain ⟨j, hj, rfl, rfl, hb⟩ := hrel
            have hbd := sumS_bd af.toNat ay.toNat (by have := G7.out; omega) (by have := G7.out; omega) j
            by_cases hjn : j < ks
            · by_cases h24 : j + 1 = 2 ∨ j + 1 = 4
              · have e5 := Lib.hid (show sumS af.toNat ay.toNat (j + 1) = sumS af.toNat ay.toNat j from if_pos h24)
                rcases h24 with h24 | h24
                · have t2 : ((j : Int) + 1 == 2) = true := by rw [beq_iff_eq]; omega
                  clear h24
                  go_wp2
                  go_roundw
                  case rel => exact ⟨j + 1, by omega, by go_num, by rw [e5.out], hb⟩
                  case measure => simp [intOf]; omega
                · have t2 : ((j : Int) + 1 == 2) = false := by rw [beq_eq_false_iff_ne]; omega
                  have t4 : ((j : Int) + 1 == 4) = true := by rw [beq_iff_eq]; omega
                  clear h24
                  go_wp2
                  go_roundw
                  case rel => exact ⟨j + 1, by omega, by go_num, by rw [e5.out], hb⟩
                  case measure => simp [intOf]; omega
              · have t2 : ((j : Int) + 1 == 2) = false := by rw [beq_eq_false_iff_ne]; omega
                have t4 : ((j : Int) + 1 == 4) = false := by rw [beq_eq_false_iff_ne]; omega
                have e5 := Lib.hid (show sumS af.toNat ay.toNat (j + 1) = sumS af.toNat ay.toNat j + stepN af.toNat ay.toNat ((j : Int) + 1) from if_neg h24)
                obtain ⟨sv, sv40⟩ := strandsV_in (st := (j : Int) + 1) G1.out ((inB_iff _ _ _).2 (by omega))
                have SV := Lib.hid sv
                clear sv h24
                generalize stepN af.toNat ay.toNat ((j : Int) + 1) = sn at *
                have hy := y.keep hb
                have e1 := hy.c0; have e2 := hy.c1; have e3 := hy.c2
                generalize sumS af.toNat ay.toNat j = sj at *
                have wr1 : IntKind.i64.wrap (sj + sn) = sj + sn := IntWalk.i64_in _ (by omega)
                go_wp2_with fail
                refine (implStrandsOf_any _ _ _ _ _).mono ?_
                rw [SV.out]
                rintro e wq ⟨rfl, hbq⟩
                clear e1 e2 e3
                go_wp2_with fail
                go_roundw
                case rel => exact ⟨j + 1, by omega, by go_num, by rw [e5.out], belowT hbq hb⟩
                case measure => simp [intOf]; omega
            · obtain rfl : j = ks := by omega
              clear y
              (try replace x := B3.keep x hb); (try replace y := B3.keep y hb); (try replace z := B3.keep z hb); (try replace u := B3.keep u hb); (try replace hP := OwnP.keep hP hb); (try replace hQ := OwnP.keep hQ hb); (try replace hI := Ints.keep hI hb); (try replace hS := Ints.keep hS hb); (try replace hK := Ints.keep hK hb); (try replace hM := Ints.keep hM hb); replace hB := belowT hb hB; clear hb
              generalize hw26 : wr = w26 at *
              clear hw26
              have G4' := G4.out
              rw [Int.toNat_natCast] at G4'
              have G5 := Lib.hid G4'
              clear G4'
              have AN' := Lib.hid AN.out
              rw [← G5.out] at hbd ⊢
              have p8 : (al.sum != al.sum) = false := by simp
              go_wp2_with fail
              refine (f6sum_any _ _ _ _ _ hS hns AN'.out (by omega)).mono ?_
              rintro e w' ⟨rfl, rfl⟩
              · skip
                have h7 : seven = 0 ∨ seven ≠ 0 := by omega
                rcases h7 with rfl | h7
                · obtain ⟨i1, i2, i3, i4, i5⟩ := BO.out rfl
                  have CE := Lib.hid (show atV cf cb cs 6 = ((atV cf cb cs 6).1, (0 : Int)) from by rw [← i3])
                  have I4 := Lib.hid i4
                  have I5 := Lib.hid i5
                  clear i3 i4 i5
                  generalize (atV cf cb cs 6).1 = cl at *
                  have e1 := u.c0; have e2 := u.c1; have e3 := u.c2
                  go_wp2_with fail
                  refine (specStrandsAt_any _ _ _ _ _).mono ?_
                  rw [CE.out]
                  rintro e w27 ⟨CA, nc, cc, rfl, hO, hb⟩
                  clear e1 e2 e3
                  have hC := OwnI.ints hO
                  have hcn : nc = cf.toNat := by rw [← hC.1]; exact I4.out
                  clear hO
                  (try replace x := B3.keep x hb); (try replace y := B3.keep y hb); (try replace z := B3.keep z hb); (try replace u := B3.keep u hb); (try replace hP := OwnP.keep hP hb); (try replace hQ := OwnP.keep hQ hb); (try replace hI := Ints.keep hI hb); (try replace hS := Ints.keep hS hb); (try replace hK := Ints.keep hK hb); (try replace hM := Ints.keep hM hb); replace hB := belowT hb hB; clear hb
                  obtain ⟨hole, rfl⟩ := Int.eq_ofNat_of_zero_le i1
                  have hln : hole < nc := by omega
                  obtain ⟨b, off, y9, rfl, hblt, hy9, hcy⟩ := hC.at_ hln
                  have i6 := I5.out
                  rw [Int.toNat_natCast, hy9, hM.1] at i6
                  injection i6 with i6
                  subst i6
                  have k1 : (hole : Int) < (nc : Int) := by omega
                  have p9 : ((nm : Int) == (nm : Int)) = true := by simp
                  clear hy9 hcn hC
                  go_wp2_with fail
                  go_ret
                  exact ⟨rfl, hB⟩
                · have d7 : (seven != 0) = true := by simpa using h7
                  clear h7
                  go_wp2_with fail
                  go_ret
                  exact ⟨rfl, hB⟩
        · have d5 : (three == 0) = false := by rw [beq_eq_false_iff_ne]; exact h3
          clear h3
          generalize hw26 : w25 = w26 at *
          clear hw26
          · · · skip
                have h7 : seven = 0 ∨ seven ≠ 0 := by omega
                rcases h7 with rfl | h7
                · obtain ⟨i1, i2, i3, i4, i5⟩ := BO.out rfl
                  have CE := Lib.hid (show atV cf cb cs 6 = ((atV cf cb cs 6).1, (0 : Int)) from by rw [← i3])
                  have I4 := Lib.hid i4
                  have I5 := Lib.hid i5
                  clear i3 i4 i5
                  generalize (atV cf cb cs 6).1 = cl at *
                  have e1 := u.c0; have e2 := u.c1; have e3 := u.c2
                  go_wp2_with fail
                  refine (specStrandsAt_any _ _ _ _ _).mono ?_
                  rw [CE.out]
                  rintro e w27 ⟨CA, nc, cc, rfl, hO, hb⟩
                  clear e1 e2 e3
                  have hC := OwnI.ints hO
                  have hcn : nc = cf.toNat := by rw [← hC.1]; exact I4.out
                  clear hO
                  (try replace x := B3.keep x hb); (try replace y := B3.keep y hb); (try replace z := B3.keep z hb); (try replace u := B3.keep u hb); (try replace hP := OwnP.keep hP hb); (try replace hQ := OwnP.keep hQ hb); (try replace hI := Ints.keep hI hb); (try replace hS := Ints.keep hS hb); (try replace hK := Ints.keep hK hb); (try replace hM := Ints.keep hM hb); replace hB := belowT hb hB; clear hb
                  obtain ⟨hole, rfl⟩ := Int.eq_ofNat_of_zero_le i1
                  have hln : hole < nc := by omega
                  obtain ⟨b, off, y9, rfl, hblt, hy9, hcy⟩ := hC.at_ hln
                  have i6 := I5.out
                  rw [Int.toNat_natCast, hy9, hM.1] at i6
                  injection i6 with i6
                  subst i6
                  have k1 : (hole : Int) < (nc : Int) := by omega
                  have p9 : ((nm : Int) == (nm : Int)) = true := by simp
                  clear hy9 hcn hC
                  go_wp2_with fail
                  go_ret
                  exact ⟨rfl, hB⟩
                · have d7 : (seven != 0) = true := by simpa using h7
                  clear h7
                  go_wp2_with fail
                  go_ret
                  exact ⟨rfl, hB⟩
end Go.Proofs.YtgjjmgneekjapaaDoor
