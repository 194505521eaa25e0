/- Plain facts about the fewest new stakes. -/
import Derived.Test.YtniifpfhfpcmcaaLong
namespace Go.Proofs.Ytniifpfhfpcmcaa
open Go.RowKit
set_option linter.unusedVariables false
set_option linter.unusedSimpArgs false

/-- The gaps of a part. -/
def gapsOf (s : Nat) (p : Int × Int) : List Int := (List.range ((p.2.toNat + 1) / 2)).map fun j : Nat => (p.1 + 2 * j) % s
def newU (s : Nat) (zs : List Int) : List Int := (partsL s zs).flatMap (gapsOf s)
def newL (s : Nat) (zs : List Int) : List Int := (newU s zs).mergeSort fun x y => decide (x ≤ y)
theorem at_succ {s : Nat} (hs : 1 ≤ s) {f : Int} (d : Nat) : (at_ s f (d + 1) + s - 1) % s = at_ s f d := by
  unfold at_
  have h1 : (f + ((d + 1 : Nat) : Int)) % s = (f + (d + 1 : Nat)) - s * ((f + (d + 1 : Nat)) / s) := by have := Int.mul_ediv_add_emod (f + ((d + 1 : Nat) : Int)) s; omega
  rw [h1, show f + ((d + 1 : Nat) : Int) - s * ((f + (d + 1 : Nat)) / s) + s - 1 = (f + d) + s * (1 - (f + (d + 1 : Nat)) / s) by rw [Int.mul_sub]; omega, Int.add_mul_emod_self_left]
theorem at_zero {s : Nat} {f : Int} (f0 : 0 ≤ f) (f1 : f < s) : at_ s f 0 = f := by
  unfold at_
  rw [show f + ((0 : Nat) : Int) = f by omega]
  exact Int.emod_eq_of_lt f0 f1
/-- What begins at a broken stake that a run from another one reaches begins nowhere. -/
theorem start_only {s : Nat} {zs : List Int} (h : Ris s zs) (hs : 1 ≤ s) {f g : Int} (hf : f ∈ zs) (hsf : startB s zs f = true) (hg : g ∈ zs) (hsg : startB s zs g = true) {d : Nat} (hd : d < runLen s zs g) (e : at_ s g d = f) : f = g := by
  obtain ⟨f0, f1⟩ := h.rng f hf
  obtain ⟨g0, g1⟩ := h.rng g hg
  rcases d with _ | d
  · rw [at_zero g0 g1] at e; exact e.symm
  · have hr := runLen_is hs zs g
    have hprev : hasI zs (at_ s g d) = true := by
      rcases Nat.eq_zero_or_pos d with rfl | hd0
      · rw [at_zero g0 g1]; exact hasI_iff.2 hg
      · exact hr.all d (by omega) hd0
    have e2 : (f + s - 1) % s = at_ s g d := by rw [← e]; exact at_succ hs d
    unfold startB at hsf hsg
    rw [e2, hprev] at hsf
    simp at hsf
    obtain ⟨hl, rfl⟩ := hsf
    have hgp := h.fullHas hl (mod_rng hs (g + s - 1)).1 (mod_rng hs (g + s - 1)).2
    rw [hgp] at hsg
    simp at hsg
    exact hsg.2.symm
theorem at_add {s : Nat} {g : Int} (d i : Nat) : at_ s (at_ s g d) i = at_ s g (d + i) := by
  unfold at_
  rw [Int.emod_add_emod]
  congr 1
  omega
theorem at_inj {s : Nat} {f : Int} {i j : Nat} (hi : i < s) (hj : j < s) (e : at_ s f i = at_ s f j) : i = j := by
  unfold at_ at e
  have h1 := Int.emod_emod_of_dvd (f + i - (f + j)) (Int.dvd_refl (s : Int))
  have h2 : (f + (i : Int) - (f + j)) % s = 0 := by rw [Int.sub_emod, e, Int.sub_self]; exact Int.zero_emod _
  rw [show f + (i : Int) - (f + j) = (i : Int) - j by omega] at h2
  obtain ⟨c, hc⟩ := Int.dvd_of_emod_eq_zero h2
  rcases Int.lt_trichotomy c 0 with h3 | h3 | h3
  · have : (s : Int) * c ≤ s * (-1) := Int.mul_le_mul_of_nonneg_left (by omega) (by omega)
    omega
  · rw [h3, Int.mul_zero] at hc; omega
  · have : (s : Int) * 1 ≤ s * c := Int.mul_le_mul_of_nonneg_left (by omega) (by omega)
    omega
/-- Two runs that meet begin at the same stake. -/
theorem runs_meet {s : Nat} {zs : List Int} (h : Ris s zs) (hs : 1 ≤ s) {f g : Int} (hf : f ∈ zs) (hsf : startB s zs f = true) (hg : g ∈ zs) (hsg : startB s zs g = true) {i j : Nat} (hi : i < runLen s zs f) (hj : j < runLen s zs g) (e : at_ s f i = at_ s g j) : f = g := by
  obtain ⟨f0, f1⟩ := h.rng f hf
  obtain ⟨g0, g1⟩ := h.rng g hg
  have key : ∀ {a b : Int} {m n : Nat}, 0 ≤ a → a < s → at_ s a m = at_ s b (m + n) → a = at_ s b n := by
    intro a b m n a0 a1 e
    have e3 : (a + m - (b + (m + n : Nat))) % s = 0 := by unfold at_ at e; rw [Int.sub_emod, e, Int.sub_self]; exact Int.zero_emod _
    have e4 : (a - (b + n)) % s = 0 := by rw [← e3]; congr 1; omega
    have e5 : a % s = (b + n) % s := Int.emod_eq_emod_iff_emod_sub_eq_zero.2 e4
    unfold at_
    rw [← e5, Int.emod_eq_of_lt a0 a1]
  rcases Nat.le_total i j with hij | hij
  · obtain ⟨n, rfl⟩ : ∃ n, j = i + n := ⟨j - i, by omega⟩
    have := key f0 f1 e
    exact start_only h hs hf hsf hg hsg (d := n) (by omega) this.symm
  · obtain ⟨n, rfl⟩ : ∃ n, i = j + n := ⟨i - j, by omega⟩
    have := key g0 g1 e.symm
    exact (start_only h hs hg hsg hf hsf (d := n) (by omega) this.symm).symm
theorem mem_parts {s : Nat} {zs : List Int} {p : Int × Int} (hp : p ∈ partsL s zs) : p.1 ∈ zs ∧ startB s zs p.1 = true ∧ p.2 = (runLen s zs p.1 : Int) := by
  unfold partsL at hp
  obtain ⟨f, hf, rfl⟩ := List.mem_map.1 hp
  obtain ⟨a, b⟩ := List.mem_filter.1 hf
  exact ⟨a, b, rfl⟩
theorem mem_gaps {s : Nat} {p : Int × Int} {x : Int} (hx : x ∈ gapsOf s p) : ∃ j : Nat, 2 * j < p.2.toNat ∧ x = at_ s p.1 (2 * j) := by
  unfold gapsOf at hx
  obtain ⟨j, hj, rfl⟩ := List.mem_map.1 hx
  have := List.mem_range.1 hj
  exact ⟨j, by omega, by unfold at_; simp⟩
theorem gaps_nodup {s : Nat} {p : Int × Int} (hp : p.2.toNat ≤ s) : (gapsOf s p).Nodup := by
  unfold gapsOf
  rw [List.Nodup, List.pairwise_map]
  refine List.Pairwise.imp_of_mem ?_ (List.pairwise_lt_range (n := (p.2.toNat + 1) / 2))
  intro i j hi hj hij e
  have h1 := List.mem_range.1 hi
  have h2 := List.mem_range.1 hj
  have e2 : at_ s p.1 (2 * i) = at_ s p.1 (2 * j) := by unfold at_; simpa using e
  have := at_inj (by omega) (by omega) e2
  omega
theorem newU_nodup {s : Nat} {zs : List Int} (h : Ris s zs) (hs : 1 ≤ s) : (newU s zs).Nodup := by
  unfold newU
  rw [List.Nodup, List.pairwise_flatMap]
  refine ⟨fun p hp => ?_, ?_⟩
  · obtain ⟨_, _, e⟩ := mem_parts hp
    exact gaps_nodup (by rw [e]; exact (runLen_is hs zs p.1).hi)
  · -- the parts begin at different stakes
    have hpw : (partsL s zs).Pairwise fun p q => p.1 ≠ q.1 := by
      unfold partsL
      rw [List.pairwise_map]
      exact (h.pw.filter _).imp (fun h => by simp only; omega)
    refine List.Pairwise.imp_of_mem ?_ hpw
    intro p q hp hq hne x hx y hy e
    subst e
    obtain ⟨a1, a2, a3⟩ := mem_parts hp
    obtain ⟨b1, b2, b3⟩ := mem_parts hq
    obtain ⟨i, hi, e1⟩ := mem_gaps hx
    obtain ⟨j, hj, e2⟩ := mem_gaps hy
    rw [a3, Int.toNat_natCast] at hi
    rw [b3, Int.toNat_natCast] at hj
    exact hne (runs_meet h hs a1 a2 b1 b2 hi hj (e1.symm.trans e2))
theorem newU_rng {s : Nat} {zs : List Int} (hs : 1 ≤ s) {x : Int} (hx : x ∈ newU s zs) : 0 ≤ x ∧ x < s := by
  unfold newU at hx
  obtain ⟨p, hp, hx⟩ := List.mem_flatMap.1 hx
  obtain ⟨j, _, rfl⟩ := mem_gaps hx
  exact mod_rng hs _
/-- n is put to its place among rising numbers, once. -/
def putS : List Int → Int → List Int
  | [], n => [n]
  | z :: zs, n => if z < n then z :: putS zs n else if z = n then z :: zs else n :: z :: zs
theorem putS_skip {zs : List Int} {n : Int} : ∀ k : Nat, (∀ (j : Nat) (z : Int), j < k → zs[j]? = some z → z < n) → putS zs n = zs.take k ++ putS (zs.drop k) n := by
  induction zs with
  | nil => intro k _; simp
  | cons z zs ih =>
    intro k hk
    rcases k with _ | k
    · simp
    · have h1 := hk 0 z (by omega) rfl
      rw [putS, if_pos h1, List.take_succ_cons, List.drop_succ_cons, List.cons_append, ih k (fun j y hj hy => hk (j + 1) y (by omega) hy)]
theorem putS_new {zs : List Int} {n : Int} (h : zs.Pairwise (· < ·)) (hn : n ∉ zs) : (putS zs n).Perm (n :: zs) ∧ (putS zs n).Pairwise (· < ·) := by
  induction zs with
  | nil => exact ⟨List.Perm.refl _, by simp [putS]⟩
  | cons z zs ih =>
    rw [List.pairwise_cons] at h
    have hzn : z ≠ n := fun e => hn (by rw [e]; exact List.mem_cons_self ..)
    obtain ⟨p1, p2⟩ := ih h.2 (fun e => hn (List.mem_cons_of_mem _ e))
    rw [putS]
    split
    · rename_i hlt
      refine ⟨(p1.cons z).trans (List.Perm.swap n z zs), List.pairwise_cons.2 ⟨fun y hy => ?_, p2⟩⟩
      rcases List.mem_cons.1 (p1.mem_iff.1 hy) with rfl | hy
      · exact hlt
      · exact h.1 y hy
    · rename_i hge
      refine ⟨List.Perm.refl _, List.pairwise_cons.2 ⟨fun y hy => ?_, List.pairwise_cons.2 h⟩⟩
      rcases List.mem_cons.1 hy with rfl | hy
      · omega
      · have := h.1 y hy; omega
/-- Rising numbers are told by what they are. -/
theorem rise_uniq : ∀ {us bs : List Int}, us.Perm bs → us.Pairwise (· < ·) → bs.Pairwise (· < ·) → us = bs
  | [], bs, hp, _, _ => hp.symm.eq_nil.symm
  | a :: us, bs, hp, ha, hb => by
    rcases bs with _ | ⟨b, bs⟩
    · exact absurd hp.length_eq (by simp)
    · rw [List.pairwise_cons] at ha hb
      have e : a = b := by
        have h1 := hp.mem_iff.1 (List.mem_cons_self (a := a) (l := us))
        have h2 := hp.mem_iff.2 (List.mem_cons_self (a := b) (l := bs))
        rcases List.mem_cons.1 h1 with e | h1
        · exact e
        · rcases List.mem_cons.1 h2 with e | h2
          · exact e.symm
          · have := hb.1 a h1
            have := ha.1 b h2
            omega
      subst e
      rw [rise_uniq ((List.perm_cons a).1 hp) ha.2 hb.2]
theorem sorted_rise {zs : List Int} (h : zs.Nodup) : (zs.mergeSort fun x y => decide (x ≤ y)).Pairwise (· < ·) := by
  have h1 := List.pairwise_mergeSort (le := fun x y : Int => decide (x ≤ y)) (fun a b c h1 h2 => by simp at h1 h2 ⊢; omega) (fun a b => by simp; omega) zs
  have h2 : (zs.mergeSort fun x y => decide (x ≤ y)).Nodup := (List.mergeSort_perm _ _).nodup_iff.2 h
  exact (h1.and h2).imp (fun ⟨a, b⟩ => by simp at a; omega)
theorem newL_ris {s : Nat} {zs : List Int} (h : Ris s zs) (hs : 1 ≤ s) : Ris s (newL s zs) :=
  ⟨sorted_rise (newU_nodup h hs), fun z hz => newU_rng hs ((List.mergeSort_perm _ _).mem_iff.1 hz)⟩
end Go.Proofs.Ytniifpfhfpcmcaa
