/- FnCourses: plain facts. -/
import Derived.Test.YtelbedmfnmjehaaHigh2
import Derived.Test.YtelbedmfnmjehaaCourX
import Derived.Test.YtelbedmfnmjehaaCour3
namespace Go.Proofs.Ytelbedmfnmjehaa
open Go.RowKit
set_option linter.unusedVariables false
set_option linter.unusedSimpArgs false

theorem low_mul (a : Nat) : ∃ g : Int, 1 ≤ g ∧ g ≤ 1000 ∧ lowN a 1000 * g = a ∧ lowD a 1000 * g = 1000 ∧ 1 ≤ lowD a 1000 ∧ lowD a 1000 ≤ 1000 ∧ 0 ≤ lowN a 1000 ∧ lowN a 1000 ≤ a := by
  have h1 := Nat.gcd_pos_of_pos_right a (show 0 < 1000 by omega)
  have h2 : Nat.gcd a 1000 ≤ 1000 := Nat.le_of_dvd (by omega) (Nat.gcd_dvd_right a 1000)
  obtain ⟨f1, f2, f3, f4, f5⟩ := low_facts (a := a) (b := 1000) (by omega)
  have e1 : lowN a 1000 * (Nat.gcd a 1000 : Nat) = a := by
    unfold lowN
    rw [Int.ediv_mul_cancel (Int.natCast_dvd_natCast.2 (Nat.gcd_dvd_left a 1000))]
  have e2 : lowD a 1000 * (Nat.gcd a 1000 : Nat) = 1000 := by
    unfold lowD
    have h := Int.ediv_mul_cancel (Int.natCast_dvd_natCast.2 (Nat.gcd_dvd_right a 1000))
    simpa using h
  refine ⟨(Nat.gcd a 1000 : Nat), by omega, by omega, e1, e2, ?_, f5, f2, f3⟩
  rcases Int.lt_or_le (lowD a 1000) 1 with h | h
  · have : lowD a 1000 = 0 := by omega
    rw [this] at e2; omega
  · exact h
/-- The comparison of a number with a fraction in lowest terms. -/
theorem low_le {a : Nat} {h : Int} (e : h * 1000 ≤ a) : h * lowD a 1000 ≤ lowN a 1000 := by
  obtain ⟨g, g0, g1, e1, e2, _⟩ := low_mul a
  refine Int.le_of_mul_le_mul_right (a := g) ?_ (by omega)
  rw [Int.mul_assoc, e2, e1]; exact e
theorem low_lt {a : Nat} {h : Int} (e : (a : Int) < h * 1000) : lowN a 1000 < h * lowD a 1000 := by
  obtain ⟨g, g0, g1, e1, e2, _⟩ := low_mul a
  refine Int.lt_of_mul_lt_mul_right (a := g) ?_ (by omega)
  rw [Int.mul_assoc, e2, e1]; exact e
theorem low_rnd {a : Nat} {z : Int} (e : z * 1000 ≤ a + 1000) : z * lowD a 1000 ≤ lowN a 1000 + lowD a 1000 := by
  obtain ⟨g, g0, g1, e1, e2, _⟩ := low_mul a
  refine Int.le_of_mul_le_mul_right (a := g) ?_ (by omega)
  rw [Int.mul_assoc, Int.add_mul, e2, e1]; exact e
theorem sumT_mono {cs : List R3} (ho : okCs cs = true) : ∀ d j : Nat, j + d ≤ cs.length → sumT (cs.take j) ≤ sumT (cs.take (j + d))
  | 0, j, _ => by simp
  | d + 1, j, h => by
    have h1 := sumT_mono ho d j (by omega)
    have hx : cs[j + d]? = some (cs[j + d]'(by omega)) := List.getElem?_eq_getElem _
    have h2 := (okC_bd ho hx).2.2.2.1
    rw [← Nat.add_assoc, take_snoc' hx, sumT_snoc]
    omega
theorem heightF_ok {cs : List R3} {p : Int} (ho : okCs cs = true) (hp : inB p 50 100 = true) : heightF cs p = (lowN (sumT cs * p).toNat 1000, lowD (sumT cs * p).toNat 1000, 0) := by
  unfold heightF; rw [ho, hp]; rfl
theorem high_facts {ds : List R3} {p : Int} (k : Nat) (z : Int) (h : (highV ds p).1[k]? = some z) :
    (k = 0 → z = 0) ∧ (∀ (j : Nat) (y : Int), k = j + 1 → (highV ds p).1[j]? = some y → y ≤ z) ∧ z * (heightF ds p).2.1 ≤ (heightF ds p).1 + (heightF ds p).2.1 ∧ (0 ≤ z ∧ z ≤ 10801) ∧ (1 ≤ (heightF ds p).2.1 ∧ (heightF ds p).2.1 ≤ 1000) ∧ (0 ≤ (heightF ds p).1 ∧ (heightF ds p).1 ≤ 10800000) := by
  cases ho : okCs ds
  · simp [highV, ho] at h
  cases hp : inB p 50 100
  · simp [highV, ho, hp] at h
  have hv : (highV ds p).1 = highL ds p := by simp [highV, ho, hp]
  have hpi := (inB_iff _ _ _).1 hp
  rw [hv] at h ⊢
  rw [heightF_ok ho hp]
  have hk : k < ds.length := by
    have := (List.getElem?_eq_some_iff.1 h).1
    simpa [highL] using this
  have at_ : ∀ j, j < ds.length → (highL ds p)[j]? = some (rnd (sumT (ds.take j) * p)) := fun j hj => by
    simp [highL, List.getElem?_range hj]
  rw [at_ k hk] at h
  injection h with h
  subst h
  have bd : ∀ j, j ≤ ds.length → 0 ≤ sumT (ds.take j) * p ∧ sumT (ds.take j) * p ≤ sumT ds * p := fun j hj => by
    have h1 := sumT_mono ho (ds.length - j) j (by omega)
    rw [show j + (ds.length - j) = ds.length by omega, List.take_length] at h1
    exact ⟨Int.mul_nonneg (sumT_bd ho j hj).1 (by omega), Int.mul_le_mul_of_nonneg_right h1 (by omega)⟩
  have hs := sumP_bd ho hpi
  have hb := bd k (by omega)
  have hN : ((sumT ds * p).toNat : Int) = sumT ds * p := Int.toNat_of_nonneg hs.2.2.1
  obtain ⟨g, g0, g1, e1, e2, l0, l1, l2, l3⟩ := low_mul (sumT ds * p).toNat
  refine ⟨fun e => ?_, fun j y e hy => ?_, ?_, rnd_bd hb.1 (by omega), ⟨l0, l1⟩, l2, by rw [hN] at l3; omega⟩
  · subst e; simp [sumT, rnd]
  · subst e
    rw [at_ j (by omega)] at hy
    injection hy with hy
    subst hy
    have h1 := sumT_mono ho 1 j (by omega)
    have h2 := Int.mul_le_mul_of_nonneg_right h1 (show 0 ≤ p by omega)
    unfold rnd; omega
  · refine low_rnd ?_
    rw [hN]
    unfold rnd; omega
theorem sumT_rep (n : Nat) (x : R3) : sumT (List.replicate n x) = n * (x.2.1 * x.2.2) := by
  induction n with
  | zero => simp [sumT]
  | succ n ih => rw [List.replicate_succ', sumT_snoc, ih]; push_cast; rw [Int.add_mul]; omega
theorem okCs_rep {n : Nat} {x : R3} (h : okC x = true) (hn : n ≤ 60) : okCs (List.replicate n x) = true := okCs_iff.2 ⟨fun y hy => by rw [(List.mem_replicate.1 hy).2]; exact h, by simpa using hn⟩
/-- What the told number of rounds is worth. -/
structure CourOk (x : R3) (h p : Int) (q : Nat) : Prop where
  le : q ≤ 60
  h0 : 0 ≤ h
  h1 : h ≤ 2000
  own : ∃ nu de : Int, heightF (List.replicate q x) p = (nu, de, 0) ∧ (1 ≤ de ∧ de ≤ 1000) ∧ (0 ≤ nu ∧ nu ≤ 10800000) ∧ h * de ≤ nu
  less : 0 < q → ∃ nu de : Int, heightF (List.replicate (q - 1) x) p = (nu, de, 0) ∧ (1 ≤ de ∧ de ≤ 1000) ∧ (0 ≤ nu ∧ nu ≤ 10800000) ∧ nu < h * de
theorem cours_facts {a t m h p : Int} (e : (coursV a t m h p).2 = 0) : ∃ q : Nat, (coursV a t m h p).1 = q ∧ CourOk (a, t, m) h p q := by
  unfold coursV at e ⊢
  cases ho : okCourse a t m
  · rw [ho] at e; simp at e
  cases hh : inB h 0 2000
  · rw [ho, hh] at e; simp at e
  cases hp : inB p 50 100
  · rw [ho, hh, hp] at e; simp at e
  by_cases h60 : 60 < coursN t m h p
  · simp [ho, hh, hp, h60] at e
  obtain ⟨i1, i2, i3⟩ := (okCourse_iff _ _ _).1 ho
  have hh' := (inB_iff _ _ _).1 hh
  have hp' := (inB_iff _ _ _).1 hp
  obtain ⟨p1, p2, p3⟩ := prod_bd i2 i3 hp'
  rw [if_pos rfl, if_pos (by rfl), if_neg h60]
  have b := ovr_bd (a := 1000 * h) (b := t * m * p) (by omega) (by omega)
  have e1 : ovr (1000 * h) (t * m * p) = (1000 * h + (t * m * p) - 1) / (t * m * p) := ovr_eq (by omega)
  have q1 := Int.mul_ediv_add_emod (1000 * h + (t * m * p) - 1) (t * m * p)
  have q2 := Int.emod_nonneg (1000 * h + (t * m * p) - 1) (show t * m * p ≠ 0 by omega)
  have q3 := Int.emod_lt_of_pos (1000 * h + (t * m * p) - 1) (show 0 < t * m * p by omega)
  rw [← e1] at q1
  unfold coursN at h60 ⊢
  obtain ⟨q, hq⟩ := Int.eq_ofNat_of_zero_le b.1
  rw [hq] at q1 h60 ⊢
  have hok : okC (a, t, m) = true := ho
  have val : ∀ n : Nat, sumT (List.replicate n (a, t, m)) * p = t * m * p * n := fun n => by
    rw [sumT_rep, Int.mul_assoc, Int.mul_comm]
  have val0 : ∀ n : Nat, 0 ≤ t * m * p * n := fun n => Int.mul_nonneg (by omega) (by omega)
  have nat : ∀ n : Nat, ((sumT (List.replicate n (a, t, m)) * p).toNat : Int) = t * m * p * n := fun n => by
    rw [val]; exact Int.toNat_of_nonneg (val0 n)
  have top : ∀ n : Nat, n ≤ 60 → t * m * p * n ≤ 10800000 := fun n hn => by
    have := mulb (x := t * m * p) (y := (n : Int)) (A := 180000) (B := 60) (by omega) (by omega) (by omega) (by omega)
    omega
  refine ⟨q, rfl, ⟨by omega, hh'.1, hh'.2, ?_, fun hq0 => ?_⟩⟩
  · obtain ⟨g, _, _, _, _, l0, l1, l2, l3⟩ := low_mul (sumT (List.replicate q (a, t, m)) * p).toNat
    have hn := nat q
    have ht := top q (by omega)
    refine ⟨_, _, heightF_ok (okCs_rep hok (by omega)) hp, ⟨l0, l1⟩, ⟨l2, by omega⟩, low_le ?_⟩
    rw [hn]; omega
  · obtain ⟨g, _, _, _, _, l0, l1, l2, l3⟩ := low_mul (sumT (List.replicate (q - 1) (a, t, m)) * p).toNat
    have hn := nat (q - 1)
    have ht := top (q - 1) (by omega)
    refine ⟨_, _, heightF_ok (okCs_rep hok (by omega)) hp, ⟨l0, l1⟩, ⟨l2, by omega⟩, low_lt ?_⟩
    rw [hn]
    have hc : ((q - 1 : Nat) : Int) = (q : Int) - 1 := by omega
    rw [hc, Int.mul_sub]; omega
theorem all_facts {cs : List R3} {s : Int} {n : Nat} (hl : cs.length = n) (e : (lenAllV cs s).2.2 = 0) : okCs cs = true ∧ inB s 3 60 = true ∧ (lenAllV cs s).1 = sumLo cs ∧ (lenAllV cs s).2.1 = sumHi s cs ∧ n ≤ 60 := by
  unfold lenAllV at e ⊢
  cases ho : okCs cs
  · rw [ho] at e; simp at e
  cases hs : inB s 3 60
  · rw [ho, hs] at e; simp at e
  exact ⟨rfl, rfl, rfl, rfl, by have := (okCs_iff.1 ho).2; omega⟩
end Go.Proofs.Ytelbedmfnmjehaa
