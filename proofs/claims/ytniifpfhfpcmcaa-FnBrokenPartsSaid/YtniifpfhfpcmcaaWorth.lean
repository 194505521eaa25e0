/- WorthMending: contracts and law; MostBroken of the program. -/
import Derived.Test.YtniifpfhfpcmcaaNewX
namespace Go.Proofs.Ytniifpfhfpcmcaa
open Go.RowKit
set_option linter.unusedVariables false
set_option linter.unusedSimpArgs false

def worthB (s : Int) (zs : List Int) (e b : Int) : Bool := if okBrok s zs && (inB e 0 1000000 && inB b 0 1000000) then decide (e * ((newV s zs).length : Int) ≤ b) else false
def worthC (s : Int) (zs : List Int) (e b : Int) : Int := if okBrok s zs then (if inB e 0 1000000 && inB b 0 1000000 then 0 else 2) else 1
def WorthPost (s : Int) (zs : List Int) (x y : Int) (w : World) (e : Ending) (w' : World) : Prop :=
  e = .returned (.tuple #[.bool (worthB s zs x y), .int .i64 (worthC s zs x y)]) ∧ Below w.heap.size w w'
theorem implWorth_any (s : Int) (A : Option Addr) (n c : Nat) (zs : List Int) (x y : Int) (w : World) (h : Ints w A n zs) (hn : n ≤ 1048576) : Calls Try.prog 24 #[.int .i64 s, .slice A n c, .int .i64 x, .int .i64 y] w (WorthPost s zs x y w) := by
  cases ho : okBrok s zs
  · have hv : worthB s zs x y = false ∧ worthC s zs x y = 1 := by simp [worthB, worthC, ho]
    go_enter Try.func24, Try.ntmps24
    go_wp2_with (go_at_call 15; refine (implValidBroken_eq _ _ _ _ _ _ _ h hn ho).mono ?_; rintro e w' ⟨rfl, q1, rfl⟩)
    go_ret2
    exact ⟨by rw [hv.1, hv.2]; rfl, by (repeat' (first | (with_reducible exact Below.refl _ _) | (with_reducible assumption) | (with_reducible refine Below.drew ?_) | (with_reducible refine below_drewN ?_ _) | (with_reducible refine Below.setCell ?_ ?_ _) | (with_reducible refine Below.alloc ?_ ?_ _) | go_size))⟩
  cases g1 : inB x 0 1000000
  · have hv : worthB s zs x y = false ∧ worthC s zs x y = 2 := by simp [worthB, worthC, ho, g1]
    go_enter Try.func24, Try.ntmps24
    go_wp2_with (first | (go_at_call 15; refine (implValidBroken_eq _ _ _ _ _ _ _ h hn ho).mono ?_; rintro e w' ⟨rfl, q1, rfl⟩) | (go_at_call 48; refine (within_any _ _ _ _).mono ?_; rintro e w' ⟨rfl, rfl⟩))
    go_ret2
    exact ⟨by rw [hv.1, hv.2]; rfl, by (repeat' (first | (with_reducible exact Below.refl _ _) | (with_reducible assumption) | (with_reducible refine Below.drew ?_) | (with_reducible refine below_drewN ?_ _) | (with_reducible refine Below.setCell ?_ ?_ _) | (with_reducible refine Below.alloc ?_ ?_ _) | go_size))⟩
  cases g2 : inB y 0 1000000
  · have hv : worthB s zs x y = false ∧ worthC s zs x y = 2 := by simp [worthB, worthC, ho, g1, g2]
    go_enter Try.func24, Try.ntmps24
    go_wp2_with (first | (go_at_call 15; refine (implValidBroken_eq _ _ _ _ _ _ _ h hn ho).mono ?_; rintro e w' ⟨rfl, q1, rfl⟩) | (go_at_call 48; refine (within_any _ _ _ _).mono ?_; rintro e w' ⟨rfl, rfl⟩))
    go_ret2
    exact ⟨by rw [hv.1, hv.2]; rfl, by (repeat' (first | (with_reducible exact Below.refl _ _) | (with_reducible assumption) | (with_reducible refine Below.drew ?_) | (with_reducible refine below_drewN ?_ _) | (with_reducible refine Below.setCell ?_ ?_ _) | (with_reducible refine Below.alloc ?_ ?_ _) | go_size))⟩
  have hv : worthB s zs x y = decide (x * ((newV s zs).length : Int) ≤ y) ∧ worthC s zs x y = 0 := by
    unfold worthB worthC
    rw [ho, g1, g2]; exact ⟨rfl, rfl⟩
  have HV := Lib.hid hv
  have HW := Lib.hid (show newV s zs = newL s.toNat zs by simp [newV, ho])
  obtain ⟨x0, x1⟩ := (inB_iff _ _ _).1 g1
  obtain ⟨t, rfl, t0, t1, hr⟩ := ris_ok ho
  clear hv
  go_enter Try.func24, Try.ntmps24
  go_wp2_with (first | (go_at_call 15; refine (implValidBroken_eq _ _ _ _ _ _ _ h hn ho).mono ?_; rintro e w' ⟨rfl, q1, rfl⟩) | (go_at_call 48; refine (within_any _ _ _ _).mono ?_; rintro e w' ⟨rfl, rfl⟩))
  refine (fewestNew_any _ _ _ _ _ _ (h.drewN _) hr t0 t1).mono ?_
  rintro e w2 ⟨B, q, d, rfl, hP, hb2⟩
  have hq : q ≤ 60 := by have h1 := OwnI.len hP; have h2 := (newL_ris hr (by omega)).len; omega
  have HQ := Lib.hid (OwnI.len hP)
  have hm := mulb (x := x) (y := (q : Int)) (A := 1000000) (B := 60) (by omega) (by omega) (by omega) (by omega)
  go_wp2_with fail
  go_ret2
  refine ⟨?_, belowT hb2 (drew_below _ _)⟩
  rw [HV.out.1, HV.out.2, HW.out, Int.toNat_natCast, HQ.out]; rfl
theorem specWorth_any (s : Int) (A : Option Addr) (n c : Nat) (zs : List Int) (x y : Int) (w : World) (h : Ints w A n zs) (hn : n ≤ 1048576) : Calls Try.prog 39 #[.int .i64 s, .slice A n c, .int .i64 x, .int .i64 y] w (WorthPost s zs x y w) := by
  cases ho : okBrok s zs
  · have hv : worthB s zs x y = false ∧ worthC s zs x y = 1 := by simp [worthB, worthC, ho]
    go_enter Try.func39, Try.ntmps39
    go_wp2_with (go_at_call 41; refine (l16Ok_eq _ _ _ _ _ _ _ h hn ho).mono ?_; rintro e w' ⟨rfl, q1, rfl⟩)
    go_ret2
    exact ⟨by rw [hv.1, hv.2]; rfl, by (repeat' (first | (with_reducible exact Below.refl _ _) | (with_reducible assumption) | (with_reducible refine Below.drew ?_) | (with_reducible refine below_drewN ?_ _) | (with_reducible refine Below.setCell ?_ ?_ _) | (with_reducible refine Below.alloc ?_ ?_ _) | go_size))⟩
  cases g1 : inB x 0 1000000
  · have hv : worthB s zs x y = false ∧ worthC s zs x y = 2 := by simp [worthB, worthC, ho, g1]
    go_enter Try.func39, Try.ntmps39
    go_wp2_with (first | (go_at_call 41; refine (l16Ok_eq _ _ _ _ _ _ _ h hn ho).mono ?_; rintro e w' ⟨rfl, q1, rfl⟩) | (go_at_call 57; refine (l00In_any _ _ _ _).mono ?_; rintro e w' ⟨rfl, rfl⟩))
    go_ret2
    exact ⟨by rw [hv.1, hv.2]; rfl, by (repeat' (first | (with_reducible exact Below.refl _ _) | (with_reducible assumption) | (with_reducible refine Below.drew ?_) | (with_reducible refine below_drewN ?_ _) | (with_reducible refine Below.setCell ?_ ?_ _) | (with_reducible refine Below.alloc ?_ ?_ _) | go_size))⟩
  cases g2 : inB y 0 1000000
  · have hv : worthB s zs x y = false ∧ worthC s zs x y = 2 := by simp [worthB, worthC, ho, g1, g2]
    go_enter Try.func39, Try.ntmps39
    go_wp2_with (first | (go_at_call 41; refine (l16Ok_eq _ _ _ _ _ _ _ h hn ho).mono ?_; rintro e w' ⟨rfl, q1, rfl⟩) | (go_at_call 57; refine (l00In_any _ _ _ _).mono ?_; rintro e w' ⟨rfl, rfl⟩))
    go_ret2
    exact ⟨by rw [hv.1, hv.2]; rfl, by (repeat' (first | (with_reducible exact Below.refl _ _) | (with_reducible assumption) | (with_reducible refine Below.drew ?_) | (with_reducible refine below_drewN ?_ _) | (with_reducible refine Below.setCell ?_ ?_ _) | (with_reducible refine Below.alloc ?_ ?_ _) | go_size))⟩
  have hv : worthB s zs x y = decide (x * ((newV s zs).length : Int) ≤ y) ∧ worthC s zs x y = 0 := by
    unfold worthB worthC
    rw [ho, g1, g2]; exact ⟨rfl, rfl⟩
  have HV := Lib.hid hv
  have HW := Lib.hid (show newV s zs = newL s.toNat zs by simp [newV, ho])
  obtain ⟨x0, x1⟩ := (inB_iff _ _ _).1 g1
  obtain ⟨t, rfl, t0, t1, hr⟩ := ris_ok ho
  clear hv
  go_enter Try.func39, Try.ntmps39
  go_wp2_with (first | (go_at_call 41; refine (l16Ok_eq _ _ _ _ _ _ _ h hn ho).mono ?_; rintro e w' ⟨rfl, q1, rfl⟩) | (go_at_call 57; refine (l00In_any _ _ _ _).mono ?_; rintro e w' ⟨rfl, rfl⟩))
  refine (l16New_any _ _ _ _ _ _ (h.drewN _) hr t0 t1).mono ?_
  rintro e w2 ⟨B, q, d, rfl, hP, hb2⟩
  have hq : q ≤ 60 := by have h1 := OwnI.len hP; have h2 := (newL_ris hr (by omega)).len; omega
  have HQ := Lib.hid (OwnI.len hP)
  have hm := mulb (x := x) (y := (q : Int)) (A := 1000000) (B := 60) (by omega) (by omega) (by omega) (by omega)
  go_wp2_with fail
  go_ret2
  refine ⟨?_, belowT hb2 (drew_below _ _)⟩
  rw [HV.out.1, HV.out.2, HW.out, Int.toNat_natCast, HQ.out]; rfl
theorem law_FnExactWorthMending (w : World) (s : Int) (_ : (Lit.int .i64 s).wf = true) (A : Option Addr) (n c : Nat) (zs : List Int) (h0 : IsInts .i64 w A n zs) (x : Int) (_ : (Lit.int .i64 x).wf = true) (y : Int) (_ : (Lit.int .i64 y).wf = true) : Calls Try.prog 10 #[.int .i64 s, .slice A n c, .int .i64 x, .int .i64 y] w fun e w' => e = .returned (.bool true) ∧ Below w.heap.size w w' := by
  have hm1 := h0.1
  unfold maxLen at hm1
  by_cases hbig : 1048576 < n
  · have h' : (1048576 : Int) < (n : Int) := by omega
    go_enter Try.func10, Try.ntmps10
    go_wp2
    go_ret
    exact ⟨rfl, Below.refl _ _⟩
  have hn : n ≤ 1048576 := by omega
  have h' : ¬ (1048576 : Int) < (n : Int) := by omega
  clear hbig
  have h := h0.ints
  have hB := Below.refl w.heap.size w
  generalize hwb : worthB s zs x y = wb
  generalize hwc : worthC s zs x y = wc
  have HE1 := Lib.hid hwb
  have HE2 := Lib.hid hwc
  clear hwb hwc
  have q1 : (wb != wb) = false := by simp
  have q2 : (wc != wc) = false := by simp
  go_enter Try.func10, Try.ntmps10
  (go_wp2_with fail; refine (toInt64S_any _ _ _ _ _ (Ints.keep h hB) hn).mono ?_; rintro e w' ⟨rfl, ha, hb⟩; have hl := OwnI.lt ha _ rfl; (have hz := hb.size; (try replace ha := OwnI.keep ha hb); (try replace hc := OwnI.keep hc hb); (try replace hx := OwnI.keep hx hb); (try replace hy := OwnI.keep hy hb); (try replace hs := OwnI.keep hs hb); (try replace hg := OwnI.keep hg hb); (try replace hd := OwnI.keep hd hb); replace hB := belowT hb hB; clear hb))
  go_wp2_with fail
  refine (specWorth_any _ _ _ _ _ _ _ _ (OwnI.ints ha) hn).mono ?_
  rintro e w' ⟨he, hb⟩
  rw [HE1.out, HE2.out] at he
  subst he
  clear ha
  (have hz := hb.size; (try replace ha := OwnI.keep ha hb); (try replace hc := OwnI.keep hc hb); (try replace hx := OwnI.keep hx hb); (try replace hy := OwnI.keep hy hb); (try replace hs := OwnI.keep hs hb); (try replace hg := OwnI.keep hg hb); (try replace hd := OwnI.keep hd hb); replace hB := belowT hb hB; clear hb)
  (go_wp2_with fail; refine (toInt64S_any _ _ _ _ _ (Ints.keep h hB) hn).mono ?_; rintro e w' ⟨rfl, hx, hb⟩; have hl := OwnI.lt hx _ rfl; (have hz := hb.size; (try replace ha := OwnI.keep ha hb); (try replace hc := OwnI.keep hc hb); (try replace hx := OwnI.keep hx hb); (try replace hy := OwnI.keep hy hb); (try replace hs := OwnI.keep hs hb); (try replace hg := OwnI.keep hg hb); (try replace hd := OwnI.keep hd hb); replace hB := belowT hb hB; clear hb))
  go_wp2_with fail
  refine (implWorth_any _ _ _ _ _ _ _ _ (OwnI.ints hx) hn).mono ?_
  rintro e w' ⟨he, hb⟩
  rw [HE1.out, HE2.out] at he
  subst he
  (have hz := hb.size; (try replace ha := OwnI.keep ha hb); (try replace hc := OwnI.keep hc hb); (try replace hx := OwnI.keep hx hb); (try replace hy := OwnI.keep hy hb); (try replace hs := OwnI.keep hs hb); (try replace hg := OwnI.keep hg hb); (try replace hd := OwnI.keep hd hb); replace hB := belowT hb hB; clear hb)
  (go_wp2_with fail; refine (toInt64S_any _ _ _ _ _ (Ints.keep h hB) hn).mono ?_; rintro e w' ⟨rfl, hd, hb⟩; have hl := OwnI.lt hd _ rfl; (have hz := hb.size; (try replace ha := OwnI.keep ha hb); (try replace hc := OwnI.keep hc hb); (try replace hx := OwnI.keep hx hb); (try replace hy := OwnI.keep hy hb); (try replace hs := OwnI.keep hs hb); (try replace hg := OwnI.keep hg hb); (try replace hd := OwnI.keep hd hb); replace hB := belowT hb hB; clear hb))
  (go_wp2_with fail; refine (eqI_same _ _ _ _ _ _ _ (OwnI.ints hx) (OwnI.ints hd) hn).mono ?_; rintro e w' ⟨rfl, hb⟩; (have hz := hb.size; (try replace ha := OwnI.keep ha hb); (try replace hc := OwnI.keep hc hb); (try replace hx := OwnI.keep hx hb); (try replace hy := OwnI.keep hy hb); (try replace hs := OwnI.keep hs hb); (try replace hg := OwnI.keep hg hb); (try replace hd := OwnI.keep hd hb); replace hB := belowT hb hB; clear hb))
  go_wp2
  go_ret
  exact ⟨rfl, hB⟩
end Go.Proofs.Ytniifpfhfpcmcaa
