/- Plain facts for FnGoods. -/
import Derived.Test.YtkkipkmjhakknaaGoodS
import Derived.Test.YtkkipkmjhakknaaGood7
namespace Go.Proofs.Ytkkipkmjhakknaa
open Go.RowKit
set_option linter.unusedVariables false
set_option linter.unusedSimpArgs false

theorem low_mul {a b : Nat} (hb : 1 ≤ b) : lowN a b * b = a * lowD a b ∧ 1 ≤ lowD a b := by
  have hg := Nat.gcd_pos_of_pos_right a (show 0 < b by omega)
  obtain ⟨x, hx⟩ := Nat.gcd_dvd_left a b
  obtain ⟨y, hy⟩ := Nat.gcd_dvd_right a b
  generalize hG : Nat.gcd a b = g at *
  have e1 : lowN a b = x := by
    unfold lowN
    rw [hG]
    have : (a : Int) = g * x := by rw [← Int.natCast_mul, ← hx]
    rw [this, Int.mul_ediv_cancel_left _ (by omega)]
  have e2 : lowD a b = y := by
    unfold lowD
    rw [hG]
    have : (b : Int) = g * y := by rw [← Int.natCast_mul, ← hy]
    rw [this, Int.mul_ediv_cancel_left _ (by omega)]
  have hy1 : 1 ≤ y := by
    rcases Nat.eq_zero_or_pos y with h | h
    · rw [h, Nat.mul_zero] at hy; omega
    · exact h
  rw [e1, e2]
  refine ⟨?_, by omega⟩
  have h1 : (a : Int) = g * x := by rw [← Int.natCast_mul, ← hx]
  have h2 : (b : Int) = g * y := by rw [← Int.natCast_mul, ← hy]
  rw [h1, h2]
  grind
theorem moment_lin (a : Int) : ∀ cs : List R2, momentI a cs = momentI 0 cs - a * weightI cs
  | [] => by simp [momentI, weightI]
  | x :: xs => by simp only [momentI, weightI, moment_lin a xs]; grind
theorem moment40 : ∀ cs : List R2, (∀ x ∈ cs, 1 ≤ x.1 ∧ x.2 ≤ 40) → momentI 40 cs ≤ 0
  | [], _ => by simp [momentI]
  | x :: xs, h => by
    have h1 := moment40 xs (fun y hy => h y (List.mem_cons_of_mem _ hy))
    have h2 := h x (List.mem_cons_self ..)
    simp only [momentI]
    have : x.1 * (x.2 - 40) ≤ 0 := Int.mul_nonpos_of_nonneg_of_nonpos (by omega) (by omega)
    omega
/-- What SharesOf tells at 0 and 40. -/
theorem shares_facts {cs : List R2} (ho : okGs cs = true) (hp : ∀ x ∈ cs, x.1 ≤ 1000 ∧ x.2 ≤ 40) :
    ∃ ln ld rn rd : Int, sharesV cs 0 40 = ((ln, ld), (rn, rd), 0) ∧ (1 ≤ ld ∧ ld ≤ 40) ∧ (1 ≤ rd ∧ rd ≤ 40) ∧ (0 ≤ ln ∧ ln ≤ 100000000) ∧ (0 ≤ rn ∧ rn ≤ 100000000) ∧ ln * rd + rn * ld = weightI cs * ld * rd ∧ rn * 40 = momentI 0 cs * rd := by
  have h40 : momentI 40 cs ≤ 0 := moment40 cs fun x hx => ⟨by have := (okG_iff x).1 ((okGs_iff.1 ho).1 x hx); omega, (hp x hx).2⟩
  have h0 := moment0_nonneg ho
  have b0 := momentAll_bd ho (a := 0) (by omega)
  have b40 := momentAll_bd ho (a := 40) (by omega)
  have hl := moment_lin 40 cs
  refine ⟨_, _, _, _, by unfold sharesV; rw [if_pos ho, if_pos (by decide), if_neg (by omega), if_neg (by omega)], ?_⟩
  generalize momentI 0 cs = m0 at *
  generalize momentI 40 cs = m4 at *
  generalize weightI cs = W at *
  obtain ⟨a, rfl⟩ := Int.eq_ofNat_of_zero_le h0
  obtain ⟨b, hb⟩ := Int.eq_ofNat_of_zero_le (show 0 ≤ -m4 by omega)
  rw [hb, Int.toNat_natCast, Int.toNat_natCast, show ((40 : Int) - 0).toNat = 40 by decide]
  obtain ⟨p1, p2⟩ := low_mul (a := b) (b := 40) (by omega)
  obtain ⟨q1, q2⟩ := low_mul (a := a) (b := 40) (by omega)
  obtain ⟨f1, f2, f3, f4, f5⟩ := low_facts (a := b) (b := 40) (by omega)
  obtain ⟨g1, g2, g3, g4, g5⟩ := low_facts (a := a) (b := 40) (by omega)
  generalize lowN b 40 = ln at *
  generalize lowD b 40 = ld at *
  generalize lowN a 40 = rn at *
  generalize lowD a 40 = rd at *
  refine ⟨⟨p2, f5⟩, ⟨q2, g5⟩, ⟨f2, by omega⟩, ⟨g2, by omega⟩, ?_, q1⟩
  have e1 : ln * 40 = b * ld := p1
  have e2 : rn * 40 = a * rd := q1
  have e3 : (40 : Int) * (ln * rd + rn * ld) = 40 * (W * ld * rd) := by
    have : (a : Int) = 40 * W - b := by omega
    have e4 : 40 * (ln * rd + rn * ld) = (ln * 40) * rd + (rn * 40) * ld := by grind
    rw [e4, e1, e2, this]
    grind
  omega
/-- What CentreOf tells. -/
theorem centre_facts {cs : List R2} (ho : okGs cs = true) (hn : cs.length ≠ 0) :
    ∃ cn cd : Int, centreF cs = (cn, cd, 0) ∧ (1 ≤ cd ∧ cd ≤ 100000) ∧ (0 ≤ cn ∧ cn ≤ 100000000) ∧ cn * weightI cs = momentI 0 cs * cd := by
  have h0 := moment0_nonneg ho
  have b0 := momentAll_bd ho (a := 0) (by omega)
  have w0 := weightAll_bd ho
  refine ⟨_, _, by unfold centreF; rw [if_pos ho, if_neg hn], ?_⟩
  generalize momentI 0 cs = m0 at *
  generalize weightI cs = W at *
  obtain ⟨a, rfl⟩ := Int.eq_ofNat_of_zero_le h0
  obtain ⟨b, rfl⟩ := Int.eq_ofNat_of_zero_le (show 0 ≤ W by omega)
  rw [Int.toNat_natCast, Int.toNat_natCast]
  obtain ⟨p1, p2⟩ := low_mul (a := a) (b := b) (by omega)
  obtain ⟨f1, f2, f3, f4, f5⟩ := low_facts (a := a) (b := b) (by omega)
  exact ⟨⟨p2, by omega⟩, ⟨f2, by omega⟩, p1⟩
/-- What the counterweight is good for. -/
theorem ovr_facts {t s : Int} (ht : 1 ≤ t) (hs : 1 ≤ s) : 1 ≤ ovr t s ∧ ovr t s ≤ t ∧ t ≤ ovr t s * s ∧ (ovr t s - 1) * s < t := by
  have hb := ovr_bd (a := t) (b := s) (by omega) (by omega)
  have e : ovr t s = (t + s - 1) / s := ovr_eq (by omega)
  have h1 := Int.mul_ediv_add_emod (t + s - 1) s
  have h2 := Int.emod_nonneg (t + s - 1) (show s ≠ 0 by omega)
  have h3 := Int.emod_lt_of_pos (t + s - 1) (show 0 < s by omega)
  rw [← e] at h1
  generalize ovr t s = v at *
  have c1 : s * v = v * s := Int.mul_comm _ _
  have c2 : (v - 1) * s = v * s - s := by grind
  refine ⟨?_, hb.2, by omega, by omega⟩
  have : 0 < v * s := by omega
  rcases Int.lt_or_le v 1 with h | h
  · have : v = 0 := by omega
    subst this
    omega
  · exact h
end Go.Proofs.Ytkkipkmjhakknaa
