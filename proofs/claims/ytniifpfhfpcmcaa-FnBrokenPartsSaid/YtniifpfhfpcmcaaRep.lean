/- The law FnRepairs. -/
import Derived.Test.YtniifpfhfpcmcaaA2L
import Derived.Test.YtniifpfhfpcmcaaNewC
import Derived.Test.YtniifpfhfpcmcaaWorth
import Derived.Test.YtniifpfhfpcmcaaA2
namespace Go.Proofs.Ytniifpfhfpcmcaa
open Go.RowKit
set_option linter.unusedVariables false
set_option linter.unusedSimpArgs false

theorem ris_rises {s : Nat} {zs : List Int} (h : Ris s zs) : risesB zs 0 ((s : Int) - 1) = true := by
  refine risesB_true rfl fun j hj => ?_
  have hz : zs[j]? = some zs[j] := List.getElem?_eq_getElem hj
  have hr := h.rng _ (List.getElem_mem hj)
  have hin : inB zs[j] 0 ((s : Int) - 1) = true := (inB_iff _ _ _).2 ⟨by omega, by omega⟩
  rcases j with _ | j
  · exact riseAt_0 hz hin
  · rw [riseAt_s (List.getElem?_eq_getElem (show j < zs.length by omega)) hz hin]
    exact decide_eq_true (List.pairwise_iff_getElem.1 h.pw j (j + 1) (by omega) hj (by omega))
theorem ris_okB {s : Nat} {zs : List Int} (h : Ris s zs) (s0 : 3 ≤ s) (s1 : s ≤ 60) : okBrok s zs = true := okBrok_iff.2 ⟨⟨by omega, by omega⟩, ris_rises h⟩
theorem unc_draw {s : Nat} {zs ds : List Int} (h : Ris s zs) (g : Ris s ds) (s0 : 3 ≤ s) (s1 : s ≤ 60) : uncV s zs ds = (zs.filter (uncB s ds), 0) := by
  simp [uncV, ris_okB h s0 s1, ris_rises g]
theorem unc_gaps {s : Nat} {zs : List Int} (h : Ris s zs) (s0 : 3 ≤ s) (s1 : s ≤ 60) : uncV s zs (newL s zs) = ([], 0) := by
  rw [unc_draw h (newL_ris h (by omega)) s0 s1]
  congr 1
  rw [List.filter_eq_nil_iff]
  intro z hz
  have h1 : cov s (newL s zs) z = true := by
    rw [cov_iff, newL_mem, newL_mem]
    exact newU_cov h (by omega) hz
  rw [uncB_cov, h1]
  simp
theorem open_has {s : Nat} {zs ds : List Int} {z : Int} (hz : z ∈ zs) : hasI (zs.filter (uncB s ds)) z = uncB s ds z := by
  cases h : uncB s ds z <;> simp [hasI, List.mem_filter, hz, h]
theorem Bytes.mono {w : World} {base base' : Nat} {A : Option Addr} {n : Nat} (h : Bytes w base A n) (hb : base ≤ base') : Bytes w base' A n :=
  ⟨h.1, fun hn => by obtain ⟨b, off, e, hlt, hc⟩ := h.2 hn; exact ⟨b, off, e, by omega, hc⟩⟩
theorem len_snoc {p : Int → Bool} {zs : List Int} {k : Nat} {z : Int} (hz : zs[k]? = some z) : ((zs.take (k + 1)).filter p).length = ((zs.take k).filter p).length + (if p z then 1 else 0) := by
  rw [filter_take_succ p hz, List.length_append]
  cases p z <;> rfl
theorem cover_least {s : Nat} {zs ds : List Int} (h : Ris s zs) (s0 : 3 ≤ s) (hl : (zs.filter (uncB s ds)).length = 0) : (newL s zs).length ≤ ds.length := by
  rw [newL_len]
  refine newU_least h (by omega) fun z hz => ?_
  have h1 : zs.filter (uncB s ds) = [] := List.eq_nil_of_length_eq_zero hl
  rw [List.filter_eq_nil_iff] at h1
  have h2 := h1 z hz
  rw [uncB_cov] at h2
  exact cov_iff.1 (by simpa using h2)
theorem newL_le {s : Nat} {zs : List Int} (h : Ris s zs) (s0 : 3 ≤ s) : (newL s zs).length ≤ zs.length := by rw [newL_len]; exact newU_le h (by omega)
theorem newL_half {s : Nat} {zs : List Int} (h : Ris s zs) (s0 : 3 ≤ s) : zs.length ≤ 2 * (newL s zs).length := by rw [newL_len]; exact newU_half h (by omega)
theorem mul_in {x y a b : Int} (x0 : 0 ≤ x) (x1 : x ≤ a) (y0 : 0 ≤ y) (y1 : y ≤ b) : 0 ≤ x * y ∧ x * y ≤ a * b := ⟨Int.mul_nonneg x0 y0, Int.mul_le_mul x1 y1 y0 (by omega)⟩
theorem worth_in {s r : Nat} {zs : List Int} {x y : Int} (ho : okBrok s zs = true) (hv : newV s zs = newL s zs) (hr : (newL s zs).length = r) (x0 : 0 ≤ x) (x1 : x ≤ 1000000) (y0 : 0 ≤ y) (y1 : y ≤ 1000000) : worthB s zs x y = decide (x * (r : Int) ≤ y) := by
  have h1 : inB x 0 1000000 = true := (inB_iff _ _ _).2 ⟨x0, x1⟩
  have h2 : inB y 0 1000000 = true := (inB_iff _ _ _).2 ⟨y0, y1⟩
  simp only [worthB, ho, h1, h2, hv, hr, Bool.and_self, if_true]
theorem worth_code {s : Nat} {zs : List Int} {x y : Int} (ho : okBrok s zs = true) (x0 : 0 ≤ x) (x1 : x ≤ 1000000) (y0 : 0 ≤ y) (y1 : y ≤ 1000000) : worthC s zs x y = 0 := by
  have h1 : inB x 0 1000000 = true := (inB_iff _ _ _).2 ⟨x0, x1⟩
  have h2 : inB y 0 1000000 = true := (inB_iff _ _ _).2 ⟨y0, y1⟩
  simp only [worthC, ho, h1, h2, Bool.and_self, if_true]
set_option maxRecDepth 100000 in
set_option maxHeartbeats 8000000 in
theorem law_FnRepairs (w : World) (A : Option Addr) (n c : Nat) (zs : List Int) (h0 : IsInts .u8 w A n zs) (B : Option Addr) (m d : Nat) (ys : List Int) (g0 : IsInts .u8 w B m ys) : Calls Try.prog 4 #[.slice A n c, .slice B m d] w fun e w' => e = .returned (.bool true) ∧ Below w.heap.size w w' := by
  have hY := bytes_of h0
  have hZ := bytes_of g0
  cases hbig : decide (3000 < n ∨ 3000 < m)
  case true =>
    go_enter Try.func4, Try.ntmps4
    go_wp2_with fail
    refine (a2Long_any _ _ _ _ _ _ true _ hY.1 hZ.1 hbig).mono ?_
    rintro e w' ⟨rfl, rfl⟩
    go_wp2_with fail
    go_ret
    exact ⟨rfl, Below.refl _ _⟩
  go_enter Try.func4, Try.ntmps4
  go_wp2_with fail
  refine (a2Long_any _ _ _ _ _ _ false _ hY.1 hZ.1 hbig).mono ?_
  rintro e w' ⟨rfl, rfl⟩
  clear hbig
  go_wp2_with fail
  refine (a2At_any _ _ _ 0 _ _ _ hZ (by omega) (by omega)).mono ?_
  rintro e w' ⟨v, rfl, v0, v1, rfl⟩
  go_wp2_with fail
  obtain ⟨s, hs⟩ : ∃ s : Nat, 3 + v = (s : Int) := ⟨(3 + v).toNat, by omega⟩
  have s0 : 3 ≤ s := by omega
  have s1 : s ≤ 16 := by omega
  simp only [hs]
  refine (a2Some_any _ _ _ s _ hY (by omega)).mono ?_
  rintro e w1 ⟨C, q, cq, zs, rfl, hz, hr, hB1⟩
  clear hs v0 v1
  have hZ1 := hZ.keep hB1
  have HR := Box0.mk hr
  clear hr hY
  have HL := Lib.hid hz.1
  have hq : q ≤ 16 := by have := HR.out.len; have := HL.out; omega
  have HO := Lib.hid (ris_okB HR.out s0 (by omega))
  have HN := Lib.hid (show newC s zs = 0 by simp [newC, HO.out])
  have HN2 := Lib.hid (show newV s zs = newL s zs by simp [newV, HO.out])
  have HG := Box0.mk (newL_ris HR.out (by omega))
  have hle := newL_le HR.out s0
  have hhalf := newL_half HR.out s0
  rw [HL.out] at hle hhalf
  have Hle := Lib.hid hle
  have Hhalf := Lib.hid hhalf
  clear hle hhalf
  go_wp2_with fail
  refine (implFewest_any _ _ _ _ _ _ hz (by omega)).mono ?_
  rintro e w2 ⟨D, r, dr, rfl, hg, hb⟩
  simp only [HN.out]
  rw [HN2.out] at hg
  have hr1 : (newL s zs).length = r := OwnI.len hg
  replace hg := OwnI.ints hg
  have hle := Hle.out
  have hhalf := Hhalf.out
  rw [hr1] at hle hhalf
  replace hz := hz.keep hb
  replace hB1 := belowT hb hB1
  have hZ2 := hZ.keep hB1
  clear hZ1 hb
  go_wp2_with fail
  refine (implUncoveredBy_any _ _ _ _ _ _ _ _ _ _ hz hg (by omega) (by omega)).mono ?_
  rw [unc_gaps HR.out s0 (by omega)]
  rintro e w3 ⟨E, r2, e2, rfl, ho, hb⟩
  obtain rfl : 0 = r2 := OwnI.len ho
  clear ho
  replace hz := hz.keep hb
  replace hg := hg.keep hb
  replace hB1 := belowT hb hB1
  have hZ3 := hZ.keep hB1
  clear hZ2 hb
  have k1 : decide (q < r) = false := decide_eq_false (by omega)
  have k2 : decide ((q : Int) < (r : Int)) = false := decide_eq_false (by omega)
  have k3 : ¬ (q < r) := by omega
  have k4 : decide (r * 2 < q) = false := decide_eq_false (by omega)
  have k5 : decide ((r : Int) * 2 < (q : Int)) = false := decide_eq_false (by omega)
  have k6 : (q : Int) ≤ (r : Int) * 2 := by omega
  have hgr := HG.out
  go_wp2_with (go_at_call 22; refine (a2Rises_true _ _ _ _ _ _ (by assumption) (by omega) (by assumption) (by omega)).mono ?_; rintro e w' ⟨rfl, hb⟩)
  replace hz := hz.keep hb
  replace hg := hg.keep hb
  replace hB1 := belowT hb hB1
  have hZ4 := hZ.keep hB1
  clear hZ3 hb hgr
  refine (a2Some_any _ _ _ s _ (hZ4.mono hB1.size) (by omega)).mono ?_
  rintro e w5 ⟨F, t, ct, ds, rfl, hd, hdr, hb⟩
  have HD := Box0.mk hdr
  have HDL := Lib.hid hd.1
  have ht : t ≤ 16 := by have := HD.out.len; have := HDL.out; omega
  clear hdr
  replace hz := hz.keep hb
  replace hg := hg.keep hb
  replace hB1 := belowT hb hB1
  have hZ5 := hZ.keep hB1
  clear hZ4 hb
  go_wp2_with fail
  refine (implUncoveredBy_any _ _ _ _ _ _ _ _ _ _ hz hd (by omega) (by omega)).mono ?_
  rw [unc_draw HR.out HD.out s0 (by omega)]
  rintro e w6 ⟨G, l, cl, rfl, ho, hb⟩
  have hl1 : (zs.filter (uncB s ds)).length = l := OwnI.len ho
  replace ho := OwnI.ints ho
  have hl2 : l ≤ q := by rw [← hl1, ← HL.out]; exact List.length_filter_le _ _
  have HL1 := Lib.hid hl1
  have HX := Lib.hid (show l = 0 → r ≤ t from fun h => by have := cover_least (ds := ds) HR.out s0 (by rw [hl1]; exact h); rw [hr1, HDL.out] at this; exact this)
  have HR1 := Lib.hid hr1
  clear hl1 hr1
  replace hz := hz.keep hb
  replace hg := hg.keep hb
  replace hd := hd.keep hb
  replace hB1 := belowT hb hB1
  have hZ6 := hZ.keep hB1
  clear hZ5 hb
  have hdr : Ris s (zs.filter (uncB s ds)) := ⟨HR.out.pw.filter _, fun z hz => HR.out.rng z ((List.mem_filter.1 hz).1)⟩
  go_wp2_with (go_at_call 22; refine (a2Rises_true _ _ _ _ _ _ (by assumption) (by omega) (by assumption) (by omega)).mono ?_; rintro e w' ⟨rfl, hb⟩)
  replace hz := hz.keep hb
  replace hg := hg.keep hb
  replace hd := hd.keep hb
  replace ho := ho.keep hb
  replace hB1 := belowT hb hB1
  have hZ7 := hZ.keep hB1
  clear hZ6 hb hdr
  go_wp2_with fail
  go_loop [14, 15] (fun nn i => ∃ k : Nat, k ≤ q ∧ i = .int .i64 k ∧ nn = .int .i64 (((zs.take k).filter (uncB s ds)).length : Nat)) (fun _ i => q - (intOf i).toNat)
  case atStart => exact ⟨0, Nat.zero_le _, rfl, rfl⟩
  case round =>
    obtain ⟨k, hk, rfl, rfl⟩ := hrel
    have hkl : ((zs.take k).filter (uncB s ds)).length ≤ 16 := by
      refine Nat.le_trans (List.length_filter_le _ _) ?_
      simp; omega
    by_cases hlt : k < q
    · obtain ⟨b, off, z, rfl, hblt, hzk, hcz⟩ := hz.at_ hlt
      obtain ⟨z0, z1⟩ := HR.out.rng z (List.mem_of_getElem? hzk)
      have ho1 : hasI (zs.filter (uncB s ds)) z = uncB s ds z := open_has (List.mem_of_getElem? hzk)
      have Hf := Lib.hid (len_snoc (p := uncB s ds) hzk)
      clear hzk
      have hzs : (z + s - 1) % s = (z + s - 1) % s := rfl
      generalize hll : ((zs.take k).filter (uncB s ds)).length = ll at *
      clear hll
      cases h1 : hasI ds z
      case true =>
        have hu : uncB s ds z = false := by simp [uncB, h1]
        rw [hu] at ho1
        have Hu := Lib.hid hu
        clear hu
        go_wp2_with (go_at_call 23; refine (a2Has_eq _ _ _ _ _ _ _ (by assumption) (by omega) (by assumption)).mono ?_; rintro e w' ⟨rfl, rfl⟩)
        go_round
        case rel => exact ⟨k + 1, by omega, by go_num, by rw [Hf.out, Hu.out]; rfl⟩
        case measure => simp [intOf]; omega
      cases h2 : hasI ds ((z + s - 1) % s)
      case true =>
        have hu : uncB s ds z = false := by simp [uncB, h2]
        rw [hu] at ho1
        have Hu := Lib.hid hu
        clear hu
        go_wp2_with (go_at_call 23; refine (a2Has_eq _ _ _ _ _ _ _ (by assumption) (by omega) (by assumption)).mono ?_; rintro e w' ⟨rfl, rfl⟩)
        go_round
        case rel => exact ⟨k + 1, by omega, by go_num, by rw [Hf.out, Hu.out]; rfl⟩
        case measure => simp [intOf]; omega
      have hu : uncB s ds z = true := by simp [uncB, h1, h2]
      rw [hu] at ho1
      have Hu := Lib.hid hu
      clear hu
      go_wp2_with (go_at_call 23; refine (a2Has_eq _ _ _ _ _ _ _ (by assumption) (by omega) (by assumption)).mono ?_; rintro e w' ⟨rfl, rfl⟩)
      go_round
      case rel => exact ⟨k + 1, by omega, by go_num, by rw [Hf.out, Hu.out]; go_num⟩
      case measure => simp [intOf]; omega
    · obtain rfl : k = q := by omega
      rw [take_all HL.out, HL1.out]
      clear hkl
      by_cases hl0 : l = 0
      · have hrt := HX.out hl0
        have m1 : decide (l = 0) = true := decide_eq_true hl0
        have m2 : decide (t < r) = false := decide_eq_false (by omega)
        have m3 : ¬ t < r := by omega
        go_wp2_with fail
        refine (a2At_any _ _ _ 1 _ w.heap.size _ hZ7 (by omega) (by omega)).mono ?_
        rintro e w' ⟨x, rfl, x0, x1, rfl⟩
        go_wp2_with fail
        refine (a2At_any _ _ _ 2 _ w.heap.size _ hZ7 (by omega) (by omega)).mono ?_
        rintro e w' ⟨y, rfl, y0, y1, rfl⟩
        have hp := mul_in (x := 10 * x) (y := (r : Int)) (a := 190) (b := 16) (by omega) (by omega) (by omega) (by omega)
        have hw1 : worthB s zs (10 * x) (50 * y) = decide (10 * x * (r : Int) ≤ 50 * y) := worth_in HO.out HN2.out HR1.out (by omega) (by omega) (by omega) (by omega)
        have hw2 : worthC s zs (10 * x) (50 * y) = 0 := worth_code HO.out (by omega) (by omega) (by omega) (by omega)
        have HW1 := Lib.hid hw1
        have HW2 := Lib.hid hw2
        clear hw1 hw2
        go_wp2_with fail
        refine (implWorth_any _ _ _ _ _ _ _ _ hz (by omega)).mono ?_
        rintro e w8 ⟨he, hb⟩
        rw [HW1.out, HW2.out] at he
        subst he
        replace hB1 := belowT hb hB1
        clear hb
        by_cases hc : 10 * x * (r : Int) ≤ 50 * y
        · have hc1 : decide (10 * x * (r : Int) ≤ 50 * y) = true := decide_eq_true hc
          rw [hc1]
          go_wp2_with fail
          go_ret
          exact ⟨rfl, hB1⟩
        · have hc1 : decide (10 * x * (r : Int) ≤ 50 * y) = false := decide_eq_false hc
          rw [hc1]
          go_wp2_with fail
          go_ret
          exact ⟨rfl, hB1⟩
      · have m1 : decide (l = 0) = false := decide_eq_false hl0
        have m4 : decide ((l : Int) = 0) = false := decide_eq_false (by omega)
        go_wp2_with fail
        refine (a2At_any _ _ _ 1 _ w.heap.size _ hZ7 (by omega) (by omega)).mono ?_
        rintro e w' ⟨x, rfl, x0, x1, rfl⟩
        go_wp2_with fail
        refine (a2At_any _ _ _ 2 _ w.heap.size _ hZ7 (by omega) (by omega)).mono ?_
        rintro e w' ⟨y, rfl, y0, y1, rfl⟩
        have hp := mul_in (x := 10 * x) (y := (r : Int)) (a := 190) (b := 16) (by omega) (by omega) (by omega) (by omega)
        have hw1 : worthB s zs (10 * x) (50 * y) = decide (10 * x * (r : Int) ≤ 50 * y) := worth_in HO.out HN2.out HR1.out (by omega) (by omega) (by omega) (by omega)
        have hw2 : worthC s zs (10 * x) (50 * y) = 0 := worth_code HO.out (by omega) (by omega) (by omega) (by omega)
        have HW1 := Lib.hid hw1
        have HW2 := Lib.hid hw2
        clear hw1 hw2
        go_wp2_with fail
        refine (implWorth_any _ _ _ _ _ _ _ _ hz (by omega)).mono ?_
        rintro e w8 ⟨he, hb⟩
        rw [HW1.out, HW2.out] at he
        subst he
        replace hB1 := belowT hb hB1
        clear hb
        by_cases hc : 10 * x * (r : Int) ≤ 50 * y
        · have hc1 : decide (10 * x * (r : Int) ≤ 50 * y) = true := decide_eq_true hc
          rw [hc1]
          go_wp2_with fail
          go_ret
          exact ⟨rfl, hB1⟩
        · have hc1 : decide (10 * x * (r : Int) ≤ 50 * y) = false := decide_eq_false hc
          rw [hc1]
          go_wp2_with fail
          go_ret
          exact ⟨rfl, hB1⟩
end Go.Proofs.Ytniifpfhfpcmcaa
