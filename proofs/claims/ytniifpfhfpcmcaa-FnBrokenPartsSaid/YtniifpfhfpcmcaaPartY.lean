/- PartsOfBroken: contracts and law. -/
import Derived.Test.YtniifpfhfpcmcaaLong
import Derived.Test.YtniifpfhfpcmcaaSS
namespace Go.Proofs.Ytniifpfhfpcmcaa
open Go.RowKit
set_option linter.unusedVariables false
set_option linter.unusedSimpArgs false

def partsC (s : Int) (zs : List Int) : Int := if okBrok s zs then 0 else 1
def partsV (s : Int) (zs : List Int) : List (Int × Int) := if okBrok s zs then partsL s.toNat zs else []
theorem partsV_len (s : Int) (zs : List Int) : (partsV s zs).length ≤ 60 := by
  unfold partsV
  cases ho : okBrok s zs
  · simp
  · obtain ⟨t, rfl, t0, t1, hr⟩ := ris_ok ho
    have := partsL_len hr
    simp only [if_true, Int.toNat_natCast]
    omega
def PartsPost (s : Int) (zs : List Int) (w : World) (e : Ending) (w' : World) : Prop :=
  ∃ B q d, e = .returned (.tuple #[.slice B q d, .int .i64 (partsC s zs)]) ∧ OwnP w' w.heap.size (.slice B q d) q (partsV s zs) ∧ Below w.heap.size w w'
theorem implParts_any (s : Int) (A : Option Addr) (n c : Nat) (zs : List Int) (w : World) (h : Ints w A n zs) (hn : n ≤ 1048576) : Calls Try.prog 25 #[.int .i64 s, .slice A n c] w (PartsPost s zs w) := by
  cases ho : okBrok s zs
  · have hv : partsC s zs = 1 := by simp [partsC, ho]
    have hv2 : partsV s zs = [] := by simp [partsV, ho]
    go_enter Try.func25, Try.ntmps25
    go_wp2_with (go_at_call 15; refine (implValidBroken_eq _ _ _ _ _ _ _ h hn ho).mono ?_; rintro e w' ⟨rfl, q1, rfl⟩)
    go_ret2
    exact ⟨none, 0, 0, by rw [hv]; rfl, by rw [hv2]; exact OwnP.nil _ _, by (repeat' (first | (with_reducible exact Below.refl _ _) | (with_reducible assumption) | (with_reducible refine Below.drew ?_) | (with_reducible refine below_drewN ?_ _) | (with_reducible refine Below.setCell ?_ ?_ _) | (with_reducible refine Below.alloc ?_ ?_ _) | go_size))⟩
  obtain ⟨t, rfl, t0, t1, hr⟩ := ris_ok ho
  have hv : partsC t zs = 0 := by simp [partsC, ho]
  have hv2 : partsV t zs = partsL t zs := by simp [partsV, ho]
  have HV := Lib.hid hv
  have HV2 := Lib.hid hv2
  clear hv hv2
  go_enter Try.func25, Try.ntmps25
  go_wp2_with (go_at_call 15; refine (implValidBroken_eq _ _ _ _ _ _ _ h hn ho).mono ?_; rintro e w' ⟨rfl, q1, rfl⟩)
  refine (partsOf_any _ _ _ _ _ _ (h.drewN _) hr t0 t1).mono ?_
  rintro e w2 ⟨B, q, d, rfl, hP, hb2⟩
  go_wp2_with fail
  go_ret2
  exact ⟨_, _, _, by rw [HV.out]; rfl, by rw [HV2.out]; exact hP, belowT hb2 (drew_below _ _)⟩
theorem specParts_any (s : Int) (A : Option Addr) (n c : Nat) (zs : List Int) (w : World) (h : Ints w A n zs) (hn : n ≤ 1048576) : Calls Try.prog 34 #[.int .i64 s, .slice A n c] w (PartsPost s zs w) := by
  cases ho : okBrok s zs
  · have hv : partsC s zs = 1 := by simp [partsC, ho]
    have hv2 : partsV s zs = [] := by simp [partsV, ho]
    go_enter Try.func34, Try.ntmps34
    go_wp2_with (go_at_call 41; refine (l16Ok_eq _ _ _ _ _ _ _ h hn ho).mono ?_; rintro e w' ⟨rfl, q1, rfl⟩)
    go_ret2
    exact ⟨none, 0, 0, by rw [hv]; rfl, by rw [hv2]; exact OwnP.nil _ _, by (repeat' (first | (with_reducible exact Below.refl _ _) | (with_reducible assumption) | (with_reducible refine Below.drew ?_) | (with_reducible refine below_drewN ?_ _) | (with_reducible refine Below.setCell ?_ ?_ _) | (with_reducible refine Below.alloc ?_ ?_ _) | go_size))⟩
  obtain ⟨t, rfl, t0, t1, hr⟩ := ris_ok ho
  have hv : partsC t zs = 0 := by simp [partsC, ho]
  have hv2 : partsV t zs = partsL t zs := by simp [partsV, ho]
  have HV := Lib.hid hv
  have HV2 := Lib.hid hv2
  clear hv hv2
  go_enter Try.func34, Try.ntmps34
  go_wp2_with (go_at_call 41; refine (l16Ok_eq _ _ _ _ _ _ _ h hn ho).mono ?_; rintro e w' ⟨rfl, q1, rfl⟩)
  refine (l16Parts_any _ _ _ _ _ _ (h.drewN _) hr t0 t1).mono ?_
  rintro e w2 ⟨B, q, d, rfl, hP, hb2⟩
  go_wp2_with fail
  go_ret2
  exact ⟨_, _, _, by rw [HV.out]; rfl, by rw [HV2.out]; exact hP, belowT hb2 (drew_below _ _)⟩
theorem law_FnExactPartsOfBroken (w : World) (s : Int) (_ : (Lit.int .i64 s).wf = true) (A : Option Addr) (n c : Nat) (zs : List Int) (h0 : IsInts .i64 w A n zs) : Calls Try.prog 8 #[.int .i64 s, .slice A n c] w fun e w' => e = .returned (.bool true) ∧ Below w.heap.size w w' := by
  have hm1 := h0.1
  unfold maxLen at hm1
  by_cases hbig : 1048576 < n
  · have h' : (1048576 : Int) < (n : Int) := by omega
    go_enter Try.func8, Try.ntmps8
    go_wp2
    go_ret
    exact ⟨rfl, Below.refl _ _⟩
  have hn : n ≤ 1048576 := by omega
  have h' : ¬ (1048576 : Int) < (n : Int) := by omega
  clear hbig
  have h := h0.ints
  have hB := Below.refl w.heap.size w
  have HPL := Lib.hid (partsV_len s zs)
  go_enter Try.func8, Try.ntmps8
  (go_wp2_with fail; refine (toInt64S_any _ _ _ _ _ (Ints.keep h hB) hn).mono ?_; rintro e w' ⟨rfl, ha, hb⟩; have hl := OwnI.lt ha _ rfl; (have hz := hb.size; (try replace ha := OwnI.keep ha hb); (try replace hc := OwnI.keep hc hb); (try replace hx := OwnI.keep hx hb); (try replace hy := OwnI.keep hy hb); (try replace hs := OwnI.keep hs hb); (try replace hg := OwnI.keep hg hb); (try replace hd := OwnI.keep hd hb); replace hB := belowT hb hB; clear hb))
  go_wp2_with fail
  refine (specParts_any _ _ _ _ _ _ (OwnI.ints ha) hn).mono ?_
  rintro e ws ⟨C, q, p, rfl, hs, hb⟩
  have hq : q ≤ 60 := by rw [← hs.len]; exact HPL.out
  clear ha
  have hBs := belowT hb hB
  have hS := Below.refl ws.heap.size ws
  clear hb hB
  -- the program's copy and answer
  go_wp2_with fail
  refine (toInt64S_any _ _ _ _ _ (h.keep hBs) hn).mono ?_
  rintro e w1 ⟨rfl, hx, hb1⟩
  have hlx := OwnI.lt hx _ rfl
  go_wp2_with fail
  refine (implParts_any _ _ _ _ _ _ (OwnI.ints hx) hn).mono ?_
  rintro e w2 ⟨D, r, t, rfl, hg, hb2⟩
  obtain rfl : r = q := hg.len.symm.trans hs.len
  have hS2 := belowT hb2 hb1
  have hz1 := hb1.size
  replace hx := OwnI.keep hx hb2
  go_wp2_with fail
  refine (eqSS_same _ _ _ _ _ _ _ _ _ hg (hs.keep hS2) (by omega)).mono ?_
  rintro e w3 ⟨rfl, hb3⟩
  have hS3 := belowT hb3 hS2
  replace hg := hg.keep hb3
  replace hx := OwnI.keep hx hb3
  go_wp2_with fail
  refine (toInt64S_any _ _ _ _ _ (h.keep (belowT hS3 hBs)) hn).mono ?_
  rintro e w4 ⟨rfl, hd, hb4⟩
  have hS4 := belowT hb4 hS3
  replace hg := hg.keep hb4
  replace hx := OwnI.keep hx hb4
  go_wp2_with fail
  refine (eqI_same _ _ _ _ _ _ _ (OwnI.ints hx) (OwnI.ints hd) hn).mono ?_
  rintro e w5 ⟨rfl, hb5⟩
  have hS5 := belowT hb5 hS4
  replace hg := hg.keep hb5
  replace hx := OwnI.keep hx hb5
  have z2 := hb2.size
  have z3 := hb3.size
  have z4 := hb4.size
  have z5 := hb5.size
  clear hd hb1 hb2 hb3 hb4 hb5 hS2 hS3 hS4
  go_wp2_with fail
  refine (markInt64S_any _ _ _ _ _ _ _ hx hn (by omega) (by omega)).mono ?_
  rintro e w6 ⟨rfl, hx6, hg6⟩
  have hS6 : Below ws.heap.size ws w6 := hS5.grown hg6 hS5.size (fun g e => by simp [Value.ownBlock] at e; omega)
  replace hg := hg.poke hg6 (fun g e => by simp [Value.ownBlock] at e; omega)
  have z6 := hg6.size
  clear hx hx6 hS5 hg6
  go_wp2_with fail
  refine (eqSS_same _ _ _ _ _ _ _ _ _ hg (hs.keep hS6) (by omega)).mono ?_
  rintro e w7 ⟨rfl, hb7⟩
  have hS7 := belowT hb7 hS6
  replace hg := hg.keep hb7
  have z7 := hb7.size
  clear hb7 hS6
  have hwsz : w1.heap.size ≤ w7.heap.size := by omega
  clear z2 z3 z4 z5 z6 z7
  go_wp2_with fail
  refine (markSS_any _ _ _ _ _ _ _ hg hwsz (by omega) (by omega) (by omega)).mono ?_
  rintro e w8 ⟨rfl, hg8, hb8⟩
  have hS8 : Below ws.heap.size ws w8 := hS7.trans (hb8.mono hz1)
  clear hg hS7 hb8
  go_wp2_with fail
  refine (heldSS_any _ _ _ _ _ _ hg8 (by omega) (by omega) (by omega)).mono ?_
  rintro e w' ⟨rfl, rfl⟩
  go_wp2_with fail
  refine (toInt64S_any _ _ _ _ _ (h.keep (belowT hS8 hBs)) hn).mono ?_
  rintro e w9 ⟨rfl, hy, hb9⟩
  have hS9 := belowT hb9 hS8
  replace hg8 := hg8.keep hb9
  go_wp2_with fail
  refine (implParts_any _ _ _ _ _ _ (OwnI.ints hy) hn).mono ?_
  rintro e w10 ⟨D2, r2, t2, rfl, hk, hb10⟩
  obtain rfl : r2 = r := hk.len.symm.trans hs.len
  have hS10 := belowT hb10 hS9
  replace hg8 := hg8.keep hb10
  go_wp2_with fail
  refine (eqSS_same _ _ _ _ _ _ _ _ _ hk (hs.keep hS10) (by omega)).mono ?_
  rintro e w11 ⟨rfl, hb11⟩
  have hS11 := belowT hb11 hS10
  replace hg8 := hg8.keep hb11
  go_wp2_with fail
  refine (heldSS_any _ _ _ _ _ _ hg8 (by omega) (by omega) (by omega)).mono ?_
  rintro e w' ⟨rfl, rfl⟩
  go_wp2
  go_ret
  exact ⟨rfl, belowT hS11 hBs⟩
end Go.Proofs.Ytniifpfhfpcmcaa
