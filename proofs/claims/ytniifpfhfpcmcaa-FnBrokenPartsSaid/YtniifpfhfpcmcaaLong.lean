/- LongestBroken: contracts and law. -/
import Derived.Test.YtniifpfhfpcmcaaPartX
namespace Go.Proofs.Ytniifpfhfpcmcaa
open Go.RowKit
set_option linter.unusedVariables false
set_option linter.unusedSimpArgs false

def lg (a p : Int × Int) : Int × Int := if a.2 < p.2 then p else a
def longL (ps : List (Int × Int)) : Int × Int := ps.foldl lg (0, 0)
theorem longL_succ {ps : List (Int × Int)} {k : Nat} {p : Int × Int} (h : ps[k]? = some p) : longL (ps.take (k + 1)) = lg (longL (ps.take k)) p := by
  unfold longL
  rw [List.take_add_one, h, List.foldl_append]; rfl
def longV (s : Nat) (zs : List Int) : Int × Int × Int := if (longL (partsL s zs)).2 = 0 then (0, 0, 3) else ((longL (partsL s zs)).1, (longL (partsL s zs)).2, 0)
def longZ (s : Int) (zs : List Int) : Int × Int × Int := if okBrok s zs then longV s.toNat zs else (0, 0, 1)
theorem ris_ok {s : Int} {zs : List Int} (h : okBrok s zs = true) : ∃ t : Nat, s = t ∧ 3 ≤ t ∧ t ≤ 60 ∧ Ris t zs := by
  obtain ⟨hs, hr⟩ := okBrok_iff.1 h
  obtain ⟨t, rfl⟩ := Int.eq_ofNat_of_zero_le (show 0 ≤ s by omega)
  exact ⟨t, rfl, by omega, by omega, ris_of hr⟩
theorem partsL_len {s : Nat} {zs : List Int} (h : Ris s zs) : (partsL s zs).length ≤ s := by
  rw [← partsK_all rfl]
  exact Nat.le_trans partsK_len h.len
theorem partsL_at {s : Nat} {zs : List Int} (h : Ris s zs) (hs : 1 ≤ s) {k : Nat} {p : Int × Int} (e : (partsL s zs)[k]? = some p) : (0 ≤ p.1 ∧ p.1 < s) ∧ 1 ≤ p.2 ∧ p.2 ≤ s := by
  have hm := List.mem_of_getElem? e
  unfold partsL at hm
  obtain ⟨f, hf, rfl⟩ := List.mem_map.1 hm
  have hf2 := (List.mem_filter.1 hf).1
  have := runLen_is hs zs f
  exact ⟨h.rng f hf2, by have := this.lo; simp only; omega, by have := this.hi; simp only; omega⟩
def vbI : Nat := 0
set_option maxHeartbeats 1000000 in
theorem implLongest_any (s : Int) (A : Option Addr) (n c : Nat) (zs : List Int) (w : World) (h : Ints w A n zs) (hn : n ≤ 1048576) : Calls Try.prog 26 #[.int .i64 s, .slice A n c] w fun e w' =>
    e = .returned (.tuple #[.int .i64 (longZ s zs).1, .int .i64 (longZ s zs).2.1, .int .i64 (longZ s zs).2.2]) ∧ Below w.heap.size w w' := by
  cases ho : okBrok s zs
  · have hv : longZ s zs = (0, 0, 1) := by simp [longZ, ho]
    rw [hv]
    clear hv
    go_enter Try.func26, Try.ntmps26
    go_wp2_with (go_at_call 15; refine (implValidBroken_eq _ _ _ _ _ _ _ h hn ho).mono ?_; rintro e w' ⟨rfl, q1, rfl⟩)
    go_ret3
    exact ⟨rfl, by (repeat' (first | (with_reducible exact Below.refl _ _) | (with_reducible assumption) | (with_reducible refine Below.drew ?_) | (with_reducible refine below_drewN ?_ _) | (with_reducible refine Below.setCell ?_ ?_ _) | (with_reducible refine Below.alloc ?_ ?_ _) | go_size))⟩
  obtain ⟨t, rfl, t0, t1, hr⟩ := ris_ok ho
  have hv : longZ t zs = longV t zs := by simp [longZ, ho]
  rw [hv]
  clear hv
  have HV := Lib.hid (show longV t zs = if (longL (partsL t zs)).2 = 0 then (0, 0, 3) else ((longL (partsL t zs)).1, (longL (partsL t zs)).2, 0) from rfl)
  have hpl := partsL_len hr
  have HA := Lib.hid (fun k p => @partsL_at t zs hr (by omega) k p)
  go_enter Try.func26, Try.ntmps26
  go_wp2_with (go_at_call 15; refine (implValidBroken_eq _ _ _ _ _ _ _ h hn ho).mono ?_; rintro e w' ⟨rfl, q1, rfl⟩)
  refine (partsOf_any _ _ _ _ _ _ (h.drewN _) hr t0 t1).mono ?_
  rintro e w2 ⟨B, q, d, rfl, hP, hb2⟩
  have hB : Below w.heap.size w w2 := belowT hb2 (drew_below _ _)
  have HL := Lib.hid hP.len
  have hql : q ≤ 60 := by rw [hP.len] at hpl; omega
  generalize partsL t zs = ps at *
  clear hb2 hpl
  go_wp2_with fail
  go_loopw [7, 8, 19] (fun f m i wr => ∃ k : Nat, k ≤ q ∧ i = .int .i64 k ∧ f = .int .i64 (longL (ps.take k)).1 ∧ m = .int .i64 (longL (ps.take k)).2 ∧ 0 ≤ (longL (ps.take k)).2 ∧ ∃ u, wr = w2.drewN u) (fun _ _ i _ => q - (intOf i).toNat)
  case atStart => exact ⟨0, Nat.zero_le _, rfl, by simp [longL], by simp [longL], by simp [longL], 0, rfl⟩
  case round =>
    obtain ⟨k, hk, rfl, rfl, rfl, hm0, nw, rfl⟩ := hrel
    by_cases hlt : k < q
    · obtain ⟨b, g, p, rfl, hp, hc0, hc1, hc2, _⟩ := hP.at_ hlt
      obtain ⟨⟨p0, p1⟩, p2, p3⟩ := HA.out k p hp
      have Hs := Lib.hid (longL_succ hp)
      have k0 : (0 : Int) ≤ (k : Int) := by omega
      have k1 : (k : Int) < (q : Int) := by omega
      clear hp
      generalize longL (ps.take k) = a at *
      by_cases hlt2 : a.2 < p.2
      · have Hl := Lib.hid (show lg a p = p by unfold lg; rw [if_pos hlt2])
        go_wp2
        go_quiet (fail)
        go_wp2
        go_roundw
        case rel => exact ⟨k + 1, by omega, by go_num, by rw [Hs.out, Hl.out], by rw [Hs.out, Hl.out], by rw [Hs.out, Hl.out]; omega, (by first | exact ⟨_, rfl⟩ | exact drew2 _ _ _ | exact ⟨0, rfl⟩)⟩
        case measure => simp [intOf]; omega
      · have Hl := Lib.hid (show lg a p = a by unfold lg; rw [if_neg hlt2])
        go_wp2
        go_roundw
        case rel => exact ⟨k + 1, by omega, by go_num, by rw [Hs.out, Hl.out], by rw [Hs.out, Hl.out], by rw [Hs.out, Hl.out]; omega, (by first | exact ⟨_, rfl⟩ | exact drew2 _ _ _ | exact ⟨0, rfl⟩)⟩
        case measure => simp [intOf]; omega
    · obtain rfl : k = q := by omega
      have et : ps.take k = ps := List.take_of_length_le (by rw [HL.out]; omega)
      rw [et]
      rw [et] at hm0
      clear et
      have hB9 := below_drewN hB nw
      generalize longL ps = a at *
      by_cases hz : a.2 = 0
      · have Hz : Hid (longV t zs = (0, 0, 3)) := HV.out.trans (if_pos hz)
        have t2 : (a.2 == 0) = true := by simpa using hz
        clear hz
        go_wp2
        go_ret3
        exact ⟨by rw [Hz.out]; rfl, hB9⟩
      · have Hz : Hid (longV t zs = (a.1, a.2, 0)) := HV.out.trans (if_neg hz)
        have t2 : (a.2 == 0) = false := by simpa using hz
        clear hz
        go_wp2
        go_ret3
        exact ⟨by rw [Hz.out]; rfl, hB9⟩
set_option maxHeartbeats 1000000 in
theorem specLongest_any (s : Int) (A : Option Addr) (n c : Nat) (zs : List Int) (w : World) (h : Ints w A n zs) (hn : n ≤ 1048576) : Calls Try.prog 33 #[.int .i64 s, .slice A n c] w fun e w' =>
    e = .returned (.tuple #[.int .i64 (longZ s zs).1, .int .i64 (longZ s zs).2.1, .int .i64 (longZ s zs).2.2]) ∧ Below w.heap.size w w' := by
  cases ho : okBrok s zs
  · have hv : longZ s zs = (0, 0, 1) := by simp [longZ, ho]
    rw [hv]
    clear hv
    go_enter Try.func33, Try.ntmps33
    go_wp2_with (go_at_call 41; refine (l16Ok_eq _ _ _ _ _ _ _ h hn ho).mono ?_; rintro e w' ⟨rfl, q1, rfl⟩)
    go_ret3
    exact ⟨rfl, by (repeat' (first | (with_reducible exact Below.refl _ _) | (with_reducible assumption) | (with_reducible refine Below.drew ?_) | (with_reducible refine below_drewN ?_ _) | (with_reducible refine Below.setCell ?_ ?_ _) | (with_reducible refine Below.alloc ?_ ?_ _) | go_size))⟩
  obtain ⟨t, rfl, t0, t1, hr⟩ := ris_ok ho
  have hv : longZ t zs = longV t zs := by simp [longZ, ho]
  rw [hv]
  clear hv
  have HV := Lib.hid (show longV t zs = if (longL (partsL t zs)).2 = 0 then (0, 0, 3) else ((longL (partsL t zs)).1, (longL (partsL t zs)).2, 0) from rfl)
  have hpl := partsL_len hr
  have HA := Lib.hid (fun k p => @partsL_at t zs hr (by omega) k p)
  go_enter Try.func33, Try.ntmps33
  go_wp2_with (go_at_call 41; refine (l16Ok_eq _ _ _ _ _ _ _ h hn ho).mono ?_; rintro e w' ⟨rfl, q1, rfl⟩)
  refine (l16Parts_any _ _ _ _ _ _ (h.drewN _) hr t0 t1).mono ?_
  rintro e w2 ⟨B, q, d, rfl, hP, hb2⟩
  have hB : Below w.heap.size w w2 := belowT hb2 (drew_below _ _)
  have HL := Lib.hid hP.len
  have hql : q ≤ 60 := by rw [hP.len] at hpl; omega
  generalize partsL t zs = ps at *
  clear hb2 hpl
  go_wp2_with fail
  go_loop [7, 8, 10] (fun f m i => ∃ k : Nat, k ≤ q ∧ i = .int .i64 k ∧ f = .int .i64 (longL (ps.take k)).1 ∧ m = .int .i64 (longL (ps.take k)).2 ∧ 0 ≤ (longL (ps.take k)).2) (fun _ _ i => q - (intOf i).toNat)
  case atStart => exact ⟨0, Nat.zero_le _, rfl, by simp [longL], by simp [longL], by simp [longL]⟩
  case round =>
    obtain ⟨k, hk, rfl, rfl, rfl, hm0⟩ := hrel
    by_cases hlt : k < q
    · obtain ⟨b, g, p, rfl, hp, hc0, hc1, hc2, _⟩ := hP.at_ hlt
      obtain ⟨⟨p0, p1⟩, p2, p3⟩ := HA.out k p hp
      have Hs := Lib.hid (longL_succ hp)
      have k0 : (0 : Int) ≤ (k : Int) := by omega
      have k1 : (k : Int) < (q : Int) := by omega
      clear hp
      generalize longL (ps.take k) = a at *
      by_cases hlt2 : a.2 < p.2
      · have Hl := Lib.hid (show lg a p = p by unfold lg; rw [if_pos hlt2])
        go_wp2
        go_round
        case rel => exact ⟨k + 1, by omega, by go_num, by rw [Hs.out, Hl.out], by rw [Hs.out, Hl.out], by rw [Hs.out, Hl.out]; omega⟩
        case measure => simp [intOf]; omega
      · have Hl := Lib.hid (show lg a p = a by unfold lg; rw [if_neg hlt2])
        go_wp2
        go_round
        case rel => exact ⟨k + 1, by omega, by go_num, by rw [Hs.out, Hl.out], by rw [Hs.out, Hl.out], by rw [Hs.out, Hl.out]; omega⟩
        case measure => simp [intOf]; omega
    · obtain rfl : k = q := by omega
      have et : ps.take k = ps := List.take_of_length_le (by rw [HL.out]; omega)
      rw [et]
      rw [et] at hm0
      clear et
      generalize longL ps = a at *
      by_cases hz : a.2 = 0
      · have Hz : Hid (longV t zs = (0, 0, 3)) := HV.out.trans (if_pos hz)
        have t2 : (a.2 == 0) = true := by simpa using hz
        clear hz
        go_wp2
        go_ret3
        exact ⟨by rw [Hz.out]; rfl, hB⟩
      · have Hz : Hid (longV t zs = (a.1, a.2, 0)) := HV.out.trans (if_neg hz)
        have t2 : (a.2 == 0) = false := by simpa using hz
        clear hz
        go_wp2
        go_ret3
        exact ⟨by rw [Hz.out]; rfl, hB⟩
theorem law_FnExactLongestBroken (w : World) (s : Int) (_ : (Lit.int .i64 s).wf = true) (A : Option Addr) (n c : Nat) (zs : List Int) (h0 : IsInts .i64 w A n zs) : Calls Try.prog 7 #[.int .i64 s, .slice A n c] w fun e w' => e = .returned (.bool true) ∧ Below w.heap.size w w' := by
  have hm1 := h0.1
  unfold maxLen at hm1
  by_cases hbig : 1048576 < n
  · have h' : (1048576 : Int) < (n : Int) := by omega
    go_enter Try.func7, Try.ntmps7
    go_wp2
    go_ret
    exact ⟨rfl, Below.refl _ _⟩
  have hn : n ≤ 1048576 := by omega
  have h' : ¬ (1048576 : Int) < (n : Int) := by omega
  clear hbig
  have h := h0.ints
  have hB := Below.refl w.heap.size w
  go_enter Try.func7, Try.ntmps7
  (go_wp2_with fail; refine (toInt64S_any _ _ _ _ _ (Ints.keep h hB) hn).mono ?_; rintro e w' ⟨rfl, ha, hb⟩; have hl := OwnI.lt ha _ rfl; (have hz := hb.size; (try replace ha := OwnI.keep ha hb); (try replace hc := OwnI.keep hc hb); (try replace hx := OwnI.keep hx hb); (try replace hy := OwnI.keep hy hb); (try replace hs := OwnI.keep hs hb); (try replace hg := OwnI.keep hg hb); (try replace hd := OwnI.keep hd hb); replace hB := belowT hb hB; clear hb))
  go_wp2_with fail
  refine (specLongest_any _ _ _ _ _ _ (OwnI.ints ha) hn).mono ?_
  rintro e w' ⟨rfl, hb⟩
  clear ha
  (have hz := hb.size; (try replace ha := OwnI.keep ha hb); (try replace hc := OwnI.keep hc hb); (try replace hx := OwnI.keep hx hb); (try replace hy := OwnI.keep hy hb); (try replace hs := OwnI.keep hs hb); (try replace hg := OwnI.keep hg hb); (try replace hd := OwnI.keep hd hb); replace hB := belowT hb hB; clear hb)
  (go_wp2_with fail; refine (toInt64S_any _ _ _ _ _ (Ints.keep h hB) hn).mono ?_; rintro e w' ⟨rfl, hx, hb⟩; have hl := OwnI.lt hx _ rfl; (have hz := hb.size; (try replace ha := OwnI.keep ha hb); (try replace hc := OwnI.keep hc hb); (try replace hx := OwnI.keep hx hb); (try replace hy := OwnI.keep hy hb); (try replace hs := OwnI.keep hs hb); (try replace hg := OwnI.keep hg hb); (try replace hd := OwnI.keep hd hb); replace hB := belowT hb hB; clear hb))
  go_wp2_with fail
  refine (implLongest_any _ _ _ _ _ _ (OwnI.ints hx) hn).mono ?_
  rintro e w' ⟨rfl, hb⟩
  (have hz := hb.size; (try replace ha := OwnI.keep ha hb); (try replace hc := OwnI.keep hc hb); (try replace hx := OwnI.keep hx hb); (try replace hy := OwnI.keep hy hb); (try replace hs := OwnI.keep hs hb); (try replace hg := OwnI.keep hg hb); (try replace hd := OwnI.keep hd hb); replace hB := belowT hb hB; clear hb)
  (go_wp2_with fail; refine (toInt64S_any _ _ _ _ _ (Ints.keep h hB) hn).mono ?_; rintro e w' ⟨rfl, hd, hb⟩; have hl := OwnI.lt hd _ rfl; (have hz := hb.size; (try replace ha := OwnI.keep ha hb); (try replace hc := OwnI.keep hc hb); (try replace hx := OwnI.keep hx hb); (try replace hy := OwnI.keep hy hb); (try replace hs := OwnI.keep hs hb); (try replace hg := OwnI.keep hg hb); (try replace hd := OwnI.keep hd hb); replace hB := belowT hb hB; clear hb))
  (go_wp2_with fail; refine (eqI_same _ _ _ _ _ _ _ (OwnI.ints hx) (OwnI.ints hd) hn).mono ?_; rintro e w' ⟨rfl, hb⟩; (have hz := hb.size; (try replace ha := OwnI.keep ha hb); (try replace hc := OwnI.keep hc hb); (try replace hx := OwnI.keep hx hb); (try replace hy := OwnI.keep hy hb); (try replace hs := OwnI.keep hs hb); (try replace hg := OwnI.keep hg hb); (try replace hd := OwnI.keep hd hb); replace hB := belowT hb hB; clear hb))
  go_wp2
  go_ret
  exact ⟨rfl, hB⟩
end Go.Proofs.Ytniifpfhfpcmcaa
