/- MostBroken: contracts and law. -/
import Derived.Test.YtniifpfhfpcmcaaMostW
namespace Go.Proofs.Ytniifpfhfpcmcaa
open Go.RowKit
set_option linter.unusedVariables false
set_option linter.unusedSimpArgs false

def mostV (s : Int) (zs : List Int) (g : Int) : Int × Int :=
  if okBrok s zs then (if inB g 0 60 then (if (newU s.toNat zs).length ≤ g.toNat then (((min s.toNat (2 * g.toNat) : Nat) : Int) - (zs.length : Int), 0) else (0, 5)) else (0, 2)) else (0, 1)
def MostPost (s : Int) (zs : List Int) (g : Int) (w : World) (e : Ending) (w' : World) : Prop :=
  e = .returned (.tuple #[.int .i64 (mostV s zs g).1, .int .i64 (mostV s zs g).2]) ∧ Below w.heap.size w w'
theorem implMost_any (s : Int) (A : Option Addr) (n c : Nat) (zs : List Int) (x : Int) (w : World) (h : Ints w A n zs) (hn : n ≤ 1048576) : Calls Try.prog 28 #[.int .i64 s, .slice A n c, .int .i64 x] w (MostPost s zs x w) := by
  cases ho : okBrok s zs
  · have hv : mostV s zs x = (0, 1) := by simp [mostV, ho]
    unfold MostPost
    rw [hv]
    clear hv
    go_enter Try.func28, Try.ntmps28
    go_wp2_with (go_at_call 15; refine (implValidBroken_eq _ _ _ _ _ _ _ h hn ho).mono ?_; rintro e w' ⟨rfl, q1, rfl⟩)
    go_ret2
    exact ⟨rfl, by (repeat' (first | (with_reducible exact Below.refl _ _) | (with_reducible assumption) | (with_reducible refine Below.drew ?_) | (with_reducible refine below_drewN ?_ _) | (with_reducible refine Below.setCell ?_ ?_ _) | (with_reducible refine Below.alloc ?_ ?_ _) | go_size))⟩
  cases g1 : inB x 0 60
  · have hv : mostV s zs x = (0, 2) := by simp [mostV, ho, g1]
    unfold MostPost
    rw [hv]
    clear hv
    go_enter Try.func28, Try.ntmps28
    go_wp2_with (first | (go_at_call 15; refine (implValidBroken_eq _ _ _ _ _ _ _ h hn ho).mono ?_; rintro e w' ⟨rfl, q1, rfl⟩) | (go_at_call 48; refine (within_any _ _ _ _).mono ?_; rintro e w' ⟨rfl, rfl⟩))
    go_ret2
    exact ⟨rfl, by (repeat' (first | (with_reducible exact Below.refl _ _) | (with_reducible assumption) | (with_reducible refine Below.drew ?_) | (with_reducible refine below_drewN ?_ _) | (with_reducible refine Below.setCell ?_ ?_ _) | (with_reducible refine Below.alloc ?_ ?_ _) | go_size))⟩
  obtain ⟨x0, x1⟩ := (inB_iff _ _ _).1 g1
  obtain ⟨g, rfl⟩ := Int.eq_ofNat_of_zero_le x0
  obtain ⟨t, rfl, t0, t1, hr⟩ := ris_ok ho
  have hl60 := hr.len
  have HL := Lib.hid h.1
  by_cases hg : (newU t zs).length ≤ g
  · have hv : mostV t zs g = (((min t (2 * g) : Nat) : Int) - (n : Int), 0) := by
      unfold mostV
      rw [ho, g1, Int.toNat_natCast, Int.toNat_natCast, HL.out]; simp only [if_true, if_pos hg]
    unfold MostPost
    rw [hv]
    have hn60 : n ≤ 60 := by have := HL.out; omega
    clear hv hl60
    go_enter Try.func28, Try.ntmps28
    go_wp2_with (first | (go_at_call 15; refine (implValidBroken_eq _ _ _ _ _ _ _ h hn ho).mono ?_; rintro e w' ⟨rfl, q1, rfl⟩) | (go_at_call 48; refine (within_any _ _ _ _).mono ?_; rintro e w' ⟨rfl, rfl⟩))
    refine (fewestNew_any _ _ _ _ _ _ (h.drewN _) hr t0 t1).mono ?_
    rintro e w2 ⟨B, q, d, rfl, hP, hb2⟩
    have hq : (q : Int) ≤ (g : Int) := by have h1 := OwnI.len hP; rw [newL_len] at h1; omega
    have hq' : q ≤ 60 := by omega
    go_wp2_with fail
    go_ret2
    refine ⟨?_, belowT hb2 (drew_below _ _)⟩
    have e1 : ((min t (2 * g) : Nat) : Int) = min (t : Int) (2 * (g : Int)) := by omega
    rw [e1]
    rfl
  · have hv : mostV t zs g = (0, 5) := by
      unfold mostV
      rw [ho, g1, Int.toNat_natCast, Int.toNat_natCast]; simp only [if_true, if_neg hg]
    unfold MostPost
    rw [hv]
    clear hv hl60
    go_enter Try.func28, Try.ntmps28
    go_wp2_with (first | (go_at_call 15; refine (implValidBroken_eq _ _ _ _ _ _ _ h hn ho).mono ?_; rintro e w' ⟨rfl, q1, rfl⟩) | (go_at_call 48; refine (within_any _ _ _ _).mono ?_; rintro e w' ⟨rfl, rfl⟩))
    refine (fewestNew_any _ _ _ _ _ _ (h.drewN _) hr t0 t1).mono ?_
    rintro e w2 ⟨B, q, d, rfl, hP, hb2⟩
    have hq : (g : Int) < (q : Int) := by have h1 := OwnI.len hP; rw [newL_len] at h1; omega
    go_wp2_with fail
    go_ret2
    exact ⟨rfl, belowT hb2 (drew_below _ _)⟩
theorem specMost_any (s : Int) (A : Option Addr) (n c : Nat) (zs : List Int) (x : Int) (w : World) (h : Ints w A n zs) (hn : n ≤ 1048576) : Calls Try.prog 40 #[.int .i64 s, .slice A n c, .int .i64 x] w (MostPost s zs x w) := by
  cases ho : okBrok s zs
  · have hv : mostV s zs x = (0, 1) := by simp [mostV, ho]
    unfold MostPost
    rw [hv]
    clear hv
    go_enter Try.func40, Try.ntmps40
    go_wp2_with (go_at_call 41; refine (l16Ok_eq _ _ _ _ _ _ _ h hn ho).mono ?_; rintro e w' ⟨rfl, q1, rfl⟩)
    go_ret2
    exact ⟨rfl, by (repeat' (first | (with_reducible exact Below.refl _ _) | (with_reducible assumption) | (with_reducible refine Below.drew ?_) | (with_reducible refine below_drewN ?_ _) | (with_reducible refine Below.setCell ?_ ?_ _) | (with_reducible refine Below.alloc ?_ ?_ _) | go_size))⟩
  cases g1 : inB x 0 60
  · have hv : mostV s zs x = (0, 2) := by simp [mostV, ho, g1]
    unfold MostPost
    rw [hv]
    clear hv
    go_enter Try.func40, Try.ntmps40
    go_wp2_with (first | (go_at_call 41; refine (l16Ok_eq _ _ _ _ _ _ _ h hn ho).mono ?_; rintro e w' ⟨rfl, q1, rfl⟩) | (go_at_call 57; refine (l00In_any _ _ _ _).mono ?_; rintro e w' ⟨rfl, rfl⟩))
    go_ret2
    exact ⟨rfl, by (repeat' (first | (with_reducible exact Below.refl _ _) | (with_reducible assumption) | (with_reducible refine Below.drew ?_) | (with_reducible refine below_drewN ?_ _) | (with_reducible refine Below.setCell ?_ ?_ _) | (with_reducible refine Below.alloc ?_ ?_ _) | go_size))⟩
  obtain ⟨x0, x1⟩ := (inB_iff _ _ _).1 g1
  obtain ⟨g, rfl⟩ := Int.eq_ofNat_of_zero_le x0
  obtain ⟨t, rfl, t0, t1, hr⟩ := ris_ok ho
  have hl60 := hr.len
  have HL := Lib.hid h.1
  have hm := most_is (g := g) hr (by omega)
  obtain ⟨mx, hmx⟩ : ∃ mx, max (mostK t zs g false) (mostK t zs g true) = mx := ⟨_, rfl⟩
  rw [hmx] at hm
  by_cases hg : (newU t zs).length ≤ g
  · have hv : mostV t zs g = (((min t (2 * g) : Nat) : Int) - (n : Int), 0) := by
      unfold mostV
      rw [ho, g1, Int.toNat_natCast, Int.toNat_natCast, HL.out]; simp only [if_true, if_pos hg]
    rw [if_pos hg] at hm
    unfold MostPost
    rw [hv, ← hm]
    have hn60 : n ≤ 60 := by have := HL.out; omega
    have mx0 : 0 ≤ mx ∧ mx ≤ 60 := by omega
    clear hv hm hl60
    obtain ⟨m0, m1⟩ := mx0
    go_enter Try.func40, Try.ntmps40
    go_wp2_with (first | (go_at_call 41; refine (l16Ok_eq _ _ _ _ _ _ _ h hn ho).mono ?_; rintro e w' ⟨rfl, q1, rfl⟩) | (go_at_call 57; refine (l00In_any _ _ _ _).mono ?_; rintro e w' ⟨rfl, rfl⟩))
    refine (l16Most_any _ _ _ _ _ _ _ _ (h.drewN _) hn t0 t1 (by omega)).mono ?_
    rintro e w2 ⟨rfl, hb2⟩
    have hB2 := belowT hb2 (drew_below _ _)
    go_wp2_with fail
    refine (l16Most_any _ _ _ _ _ _ _ _ (h.keep hB2) hn t0 t1 (by omega)).mono ?_
    rintro e w3 ⟨rfl, hb3⟩
    have hB3 := belowT hb3 hB2
    go_wp2_with (go_at_call 60; refine (l00MaxQ _ _ _ _ hmx).mono ?_; rintro e w' ⟨rfl, rfl⟩)
    go_ret2
    exact ⟨rfl, hB3⟩
  · have hv : mostV t zs g = (0, 5) := by
      unfold mostV
      rw [ho, g1, Int.toNat_natCast, Int.toNat_natCast]; simp only [if_true, if_neg hg]
    rw [if_neg hg] at hm
    unfold MostPost
    rw [hv]
    have m0 : mx < 0 := by omega
    clear hv hm hl60
    go_enter Try.func40, Try.ntmps40
    go_wp2_with (first | (go_at_call 41; refine (l16Ok_eq _ _ _ _ _ _ _ h hn ho).mono ?_; rintro e w' ⟨rfl, q1, rfl⟩) | (go_at_call 57; refine (l00In_any _ _ _ _).mono ?_; rintro e w' ⟨rfl, rfl⟩))
    refine (l16Most_any _ _ _ _ _ _ _ _ (h.drewN _) hn t0 t1 (by omega)).mono ?_
    rintro e w2 ⟨rfl, hb2⟩
    have hB2 := belowT hb2 (drew_below _ _)
    go_wp2_with fail
    refine (l16Most_any _ _ _ _ _ _ _ _ (h.keep hB2) hn t0 t1 (by omega)).mono ?_
    rintro e w3 ⟨rfl, hb3⟩
    have hB3 := belowT hb3 hB2
    go_wp2_with (go_at_call 60; refine (l00MaxQ _ _ _ _ hmx).mono ?_; rintro e w' ⟨rfl, rfl⟩)
    go_ret2
    exact ⟨rfl, hB3⟩
theorem law_FnExactMostBroken (w : World) (s : Int) (_ : (Lit.int .i64 s).wf = true) (A : Option Addr) (n c : Nat) (zs : List Int) (h0 : IsInts .i64 w A n zs) (x : Int) (_ : (Lit.int .i64 x).wf = true) : Calls Try.prog 12 #[.int .i64 s, .slice A n c, .int .i64 x] w fun e w' => e = .returned (.bool true) ∧ Below w.heap.size w w' := by
  have hm1 := h0.1
  unfold maxLen at hm1
  by_cases hbig : 1048576 < n
  · have h' : (1048576 : Int) < (n : Int) := by omega
    go_enter Try.func12, Try.ntmps12
    go_wp2
    go_ret
    exact ⟨rfl, Below.refl _ _⟩
  have hn : n ≤ 1048576 := by omega
  have h' : ¬ (1048576 : Int) < (n : Int) := by omega
  clear hbig
  have h := h0.ints
  have hB := Below.refl w.heap.size w
  obtain ⟨wb, hwb⟩ : ∃ v, (mostV s zs x).1 = v := ⟨_, rfl⟩
  obtain ⟨wc, hwc⟩ : ∃ v, (mostV s zs x).2 = v := ⟨_, rfl⟩
  have HE1 := Lib.hid hwb
  have HE2 := Lib.hid hwc
  clear hwb hwc
  have q1 : (wb != wb) = false := by simp
  have q2 : (wc != wc) = false := by simp
  go_enter Try.func12, Try.ntmps12
  (go_wp2_with fail; refine (toInt64S_any _ _ _ _ _ (Ints.keep h hB) hn).mono ?_; rintro e w' ⟨rfl, ha, hb⟩; have hl := OwnI.lt ha _ rfl; (have hz := hb.size; (try replace ha := OwnI.keep ha hb); (try replace hc := OwnI.keep hc hb); (try replace hx := OwnI.keep hx hb); (try replace hy := OwnI.keep hy hb); (try replace hs := OwnI.keep hs hb); (try replace hg := OwnI.keep hg hb); (try replace hd := OwnI.keep hd hb); replace hB := belowT hb hB; clear hb))
  go_wp2_with fail
  refine (specMost_any _ _ _ _ _ _ _ (OwnI.ints ha) hn).mono ?_
  rintro e w' ⟨he, hb⟩
  rw [HE1.out, HE2.out] at he
  subst he
  clear ha
  (have hz := hb.size; (try replace ha := OwnI.keep ha hb); (try replace hc := OwnI.keep hc hb); (try replace hx := OwnI.keep hx hb); (try replace hy := OwnI.keep hy hb); (try replace hs := OwnI.keep hs hb); (try replace hg := OwnI.keep hg hb); (try replace hd := OwnI.keep hd hb); replace hB := belowT hb hB; clear hb)
  (go_wp2_with fail; refine (toInt64S_any _ _ _ _ _ (Ints.keep h hB) hn).mono ?_; rintro e w' ⟨rfl, hx, hb⟩; have hl := OwnI.lt hx _ rfl; (have hz := hb.size; (try replace ha := OwnI.keep ha hb); (try replace hc := OwnI.keep hc hb); (try replace hx := OwnI.keep hx hb); (try replace hy := OwnI.keep hy hb); (try replace hs := OwnI.keep hs hb); (try replace hg := OwnI.keep hg hb); (try replace hd := OwnI.keep hd hb); replace hB := belowT hb hB; clear hb))
  go_wp2_with fail
  refine (implMost_any _ _ _ _ _ _ _ (OwnI.ints hx) hn).mono ?_
  rintro e w' ⟨he, hb⟩
  rw [HE1.out, HE2.out] at he
  subst he
  (have hz := hb.size; (try replace ha := OwnI.keep ha hb); (try replace hc := OwnI.keep hc hb); (try replace hx := OwnI.keep hx hb); (try replace hy := OwnI.keep hy hb); (try replace hs := OwnI.keep hs hb); (try replace hg := OwnI.keep hg hb); (try replace hd := OwnI.keep hd hb); replace hB := belowT hb hB; clear hb)
  (go_wp2_with fail; refine (toInt64S_any _ _ _ _ _ (Ints.keep h hB) hn).mono ?_; rintro e w' ⟨rfl, hd, hb⟩; have hl := OwnI.lt hd _ rfl; (have hz := hb.size; (try replace ha := OwnI.keep ha hb); (try replace hc := OwnI.keep hc hb); (try replace hx := OwnI.keep hx hb); (try replace hy := OwnI.keep hy hb); (try replace hs := OwnI.keep hs hb); (try replace hg := OwnI.keep hg hb); (try replace hd := OwnI.keep hd hb); replace hB := belowT hb hB; clear hb))
  (go_wp2_with fail; refine (eqI_same _ _ _ _ _ _ _ (OwnI.ints hx) (OwnI.ints hd) hn).mono ?_; rintro e w' ⟨rfl, hb⟩; (have hz := hb.size; (try replace ha := OwnI.keep ha hb); (try replace hc := OwnI.keep hc hb); (try replace hx := OwnI.keep hx hb); (try replace hy := OwnI.keep hy hb); (try replace hs := OwnI.keep hs hb); (try replace hg := OwnI.keep hg hb); (try replace hd := OwnI.keep hd hb); replace hB := belowT hb hB; clear hb))
  go_wp2
  go_ret
  exact ⟨rfl, hB⟩
end Go.Proofs.Ytniifpfhfpcmcaa
