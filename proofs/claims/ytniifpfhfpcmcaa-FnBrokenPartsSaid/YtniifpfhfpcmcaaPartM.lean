/- Plain facts about the parts of broken stakes. -/
import Derived.Test.YtniifpfhfpcmcaaUnc
namespace Go.Proofs.Ytniifpfhfpcmcaa
open Go.RowKit
set_option linter.unusedVariables false
set_option linter.unusedSimpArgs false

/-- Numbers that rise strictly, from 0 to less than s. -/
structure Ris (s : Nat) (zs : List Int) : Prop where
  pw : zs.Pairwise (· < ·)
  rng : ∀ z ∈ zs, 0 ≤ z ∧ z < s
theorem rises_adj {zs : List Int} {lo hi : Int} (h : risesB zs lo hi = true) (j : Nat) (hj : j + 1 < zs.length) : zs[j]'(by omega) < zs[j + 1] := by
  unfold risesB at h
  rw [List.all_eq_true] at h
  have h1 := h (j + 1) (by simpa using hj)
  unfold riseAt at h1
  rw [Nat.add_sub_cancel, getD_of (List.getElem?_eq_getElem hj), getD_of (List.getElem?_eq_getElem (show j < zs.length by omega))] at h1
  simp at h1
  exact h1.2
theorem rises_lt {zs : List Int} {lo hi : Int} (h : risesB zs lo hi = true) (i : Nat) : ∀ d : Nat, (hj : i + d + 1 < zs.length) → zs[i]'(by omega) < zs[i + d + 1]
  | 0, hj => rises_adj h i hj
  | d + 1, hj => Int.lt_trans (rises_lt h i d (by omega)) (rises_adj h (i + d + 1) hj)
theorem ris_of {s : Nat} {zs : List Int} (h : risesB zs 0 ((s : Int) - 1) = true) : Ris s zs := by
  refine ⟨?_, fun z hz => ?_⟩
  · rw [List.pairwise_iff_getElem]
    intro i j hi hj hij
    obtain ⟨d, rfl⟩ : ∃ d, j = i + d + 1 := ⟨j - i - 1, by omega⟩
    exact rises_lt h i d hj
  · obtain ⟨j, hj, rfl⟩ := List.mem_iff_getElem.1 hz
    have := risesB_in h (List.getElem?_eq_getElem hj)
    omega
theorem rises_of {s : Nat} {zs : List Int} (h : Ris s zs) : risesB zs 0 ((s : Int) - 1) = true := by
  refine risesB_true rfl fun j hj => ?_
  have hz : zs[j]? = some (zs[j]'hj) := List.getElem?_eq_getElem _
  have hin : inB (zs[j]'hj) 0 ((s : Int) - 1) = true := (inB_iff _ _ _).2 (by have := h.rng _ (List.mem_of_getElem? hz); omega)
  rcases Nat.eq_zero_or_pos j with rfl | h0
  · exact riseAt_0 hz hin
  · obtain ⟨i, rfl⟩ : ∃ i, j = i + 1 := ⟨j - 1, by omega⟩
    rw [riseAt_s (List.getElem?_eq_getElem (show i < zs.length by omega)) hz hin, decide_eq_true_iff]
    exact List.pairwise_iff_getElem.1 h.pw i (i + 1) _ _ (by omega)
theorem Ris.lo {s : Nat} {zs : List Int} (h : Ris s zs) : ∀ j : Nat, (hj : j < zs.length) → (j : Int) ≤ zs[j]
  | 0, hj => (h.rng _ (List.getElem_mem hj)).1
  | j + 1, hj => by
    have h1 := h.lo j (by omega)
    have h2 := List.pairwise_iff_getElem.1 h.pw j (j + 1) (by omega) hj (by omega)
    omega
theorem Ris.hi {s : Nat} {zs : List Int} (h : Ris s zs) (d : Nat) : ∀ j : Nat, (hj : j < zs.length) → zs.length = j + d + 1 → zs[j] + d < s := by
  induction d with
  | zero => intro j hj _; have := (h.rng _ (List.getElem_mem hj)).2; omega
  | succ d ih =>
    intro j hj e
    have h1 := ih (j + 1) (by omega) (by omega)
    have h2 := List.pairwise_iff_getElem.1 h.pw j (j + 1) hj (by omega) (by omega)
    omega
theorem Ris.len {s : Nat} {zs : List Int} (h : Ris s zs) : zs.length ≤ s := by
  rcases Nat.eq_zero_or_pos zs.length with h0 | h0
  · omega
  · have h1 := h.lo (zs.length - 1) (by omega)
    have h2 := (h.rng _ (List.getElem_mem (show zs.length - 1 < zs.length by omega))).2
    omega
theorem Ris.full {s : Nat} {zs : List Int} (h : Ris s zs) (hl : zs.length = s) : zs = (List.range s).map (fun j : Nat => (j : Int)) := by
  apply List.ext_getElem (by simp [hl])
  intro j h1 h2
  have a := h.lo j h1
  have b := h.hi (s - j - 1) j h1 (by omega)
  simp
  omega
theorem hasI_iff {zs : List Int} {z : Int} : hasI zs z = true ↔ z ∈ zs := by unfold hasI; rw [decide_eq_true_iff]
theorem Ris.fullHas {s : Nat} {zs : List Int} (h : Ris s zs) (hl : zs.length = s) {z : Int} (z0 : 0 ≤ z) (z1 : z < s) : hasI zs z = true := by
  rw [hasI_iff, h.full hl]
  exact List.mem_map.2 ⟨z.toNat, List.mem_range.2 (by omega), by omega⟩
/-- Where not all are broken, one is not. -/
theorem Ris.gap {s : Nat} {zs : List Int} (h : Ris s zs) (hl : zs.length < s) : ∃ u : Nat, u < s ∧ hasI zs u = false := by
  by_cases hall : ∀ u : Nat, u < s → hasI zs u = true
  · exfalso
    -- number j of the list is j, for all j
    have key : ∀ j : Nat, j ≤ zs.length → ∀ i : Nat, (hi : i < zs.length) → i < j → zs[i] = i := by
      intro j
      induction j with
      | zero => intro _ i _ hi; omega
      | succ j ih =>
        intro hj i hi hij
        rcases Nat.lt_succ_iff_lt_or_eq.1 hij with h1 | rfl
        · exact ih (by omega) i hi h1
        · have hm := hasI_iff.1 (hall i (by omega))
          obtain ⟨k, hk, e⟩ := List.mem_iff_getElem.1 hm
          rcases Nat.lt_trichotomy k i with h2 | h2 | h2
          · have := ih (by omega) k hk h2; omega
          · subst h2; exact e
          · have h3 := List.pairwise_iff_getElem.1 h.pw i k hi hk h2
            have h4 := h.lo i hi
            omega
    have hm := hasI_iff.1 (hall zs.length hl)
    obtain ⟨k, hk, e⟩ := List.mem_iff_getElem.1 hm
    have := key zs.length (Nat.le_refl _) k hk hk
    omega
  · rw [Classical.not_forall] at hall
    obtain ⟨u, hu⟩ := hall
    rw [Classical.not_imp] at hu
    exact ⟨u, hu.1, by simpa using hu.2⟩

/-- Stake f + j of the circle. -/
def at_ (s : Nat) (f : Int) (j : Nat) : Int := (f + j) % s
/-- The run of broken stakes from f on is v long. -/
structure IsRun (s : Nat) (zs : List Int) (f : Int) (v : Nat) : Prop where
  lo : 1 ≤ v
  hi : v ≤ s
  all : ∀ j, j < v → 0 < j → hasI zs (at_ s f j) = true
  stop : v = s ∨ hasI zs (at_ s f v) = false
theorem IsRun.uniq {s : Nat} {zs : List Int} {f : Int} {v u : Nat} (h : IsRun s zs f v) (g : IsRun s zs f u) : v = u := by
  rcases Nat.lt_trichotomy v u with h1 | h1 | h1
  · rcases h.stop with e | e
    · have := g.hi; omega
    · have := g.all v h1 (by have := h.lo; omega)
      rw [e] at this; cases this
  · exact h1
  · rcases g.stop with e | e
    · have := h.hi; omega
    · have := h.all u h1 (by have := g.lo; omega)
      rw [e] at this; cases this
/-- The length of the run from f on. -/
def runFrom (s : Nat) (zs : List Int) (f : Int) : Nat → Nat → Nat
  | 0, m => m
  | n + 1, m => if hasI zs (at_ s f m) then runFrom s zs f n (m + 1) else m
def runLen (s : Nat) (zs : List Int) (f : Int) : Nat := runFrom s zs f (s - 1) 1
theorem runFrom_is {s : Nat} {zs : List Int} {f : Int} : ∀ n m : Nat, 1 ≤ m → m + n = s → (∀ j, j < m → 0 < j → hasI zs (at_ s f j) = true) → IsRun s zs f (runFrom s zs f n m)
  | 0, m, h1, h2, h3 => ⟨h1, by simp [runFrom]; omega, h3, .inl (by simp [runFrom]; omega)⟩
  | n + 1, m, h1, h2, h3 => by
    rw [runFrom]
    split
    · rename_i h
      refine runFrom_is n (m + 1) (by omega) (by omega) fun j hj hj0 => ?_
      rcases Nat.lt_succ_iff_lt_or_eq.1 hj with h4 | rfl
      · exact h3 j h4 hj0
      · exact h
    · rename_i h
      exact ⟨h1, by omega, h3, .inr (by simpa using h)⟩
theorem runLen_is {s : Nat} (hs : 1 ≤ s) (zs : List Int) (f : Int) : IsRun s zs f (runLen s zs f) := runFrom_is _ _ (Nat.le_refl _) (by omega) fun j h1 h2 => by omega
theorem runLen_eq {s : Nat} {zs : List Int} {f : Int} {v : Nat} (h : IsRun s zs f v) : runLen s zs f = v := (runLen_is (by have := h.lo; have := h.hi; omega) zs f).uniq h
/-- A part begins at f. -/
def startB (s : Nat) (zs : List Int) (f : Int) : Bool := !hasI zs ((f + s - 1) % s) || (decide (zs.length = s) && decide (f = 0))
def partsL (s : Nat) (zs : List Int) : List (Int × Int) := (zs.filter (startB s zs)).map fun f => (f, (runLen s zs f : Int))
theorem mod_rng {s : Nat} (hs : 1 ≤ s) (a : Int) : 0 ≤ a % s ∧ a % s < s := ⟨Int.emod_nonneg _ (by omega), Int.emod_lt_of_pos _ (by omega)⟩
theorem partsL_full {s : Nat} {zs : List Int} (h : Ris s zs) (hs : 1 ≤ s) (hl : zs.length = s) : partsL s zs = [(0, (s : Int))] := by
  have hst : ∀ f : Int, startB s zs f = decide (f = 0) := fun f => by
    unfold startB
    obtain ⟨a, b⟩ := mod_rng hs (f + s - 1)
    rw [h.fullHas hl a b, hl]; simp
  have hrun : runLen s zs 0 = s := runLen_eq ⟨hs, Nat.le_refl _, fun j _ _ => by obtain ⟨a, b⟩ := mod_rng hs ((0 : Int) + j); exact h.fullHas hl a b, .inl rfl⟩
  have hf : zs.filter (startB s zs) = [0] := by
    rw [List.filter_congr (fun x _ => hst x)]
    have h0 : (0 : Int) ∈ zs := hasI_iff.1 (h.fullHas hl (Int.le_refl _) (by omega))
    have hn : zs.Pairwise (· ≠ ·) := h.pw.imp (fun h => by omega)
    -- exactly one zero
    clear hst hrun hl h
    induction zs with
    | nil => simp at h0
    | cons z zs ih =>
      rw [List.pairwise_cons] at hn
      by_cases hz : z = 0
      · subst hz
        rw [List.filter_cons_of_pos (by simp)]
        have : zs.filter (fun f => decide (f = 0)) = [] := by
          rw [List.filter_eq_nil_iff]
          intro a ha
          have := hn.1 a ha
          simp; omega
        rw [this]
      · rw [List.filter_cons_of_neg (by simpa using hz)]
        exact ih (by rcases List.mem_cons.1 h0 with e | e; · exact absurd e.symm hz
                     · exact e) hn.2
  unfold partsL
  rw [hf]
  simp [hrun]
/-- Where not all are broken, each run ends early. -/
theorem run_ends {s : Nat} {zs : List Int} (h : Ris s zs) (hs : 1 ≤ s) (hl : zs.length < s) {f : Int} (f0 : 0 ≤ f) (f1 : f < s) : ∃ m : Nat, m < s ∧ hasI zs (at_ s f m) = false := by
  obtain ⟨u, hu, hn⟩ := h.gap hl
  refine ⟨((u - f) % s).toNat, ?_, ?_⟩
  · have := mod_rng hs ((u : Int) - f); omega
  · have e : at_ s f ((u - f) % s).toNat = u := by
      unfold at_
      have := mod_rng hs ((u : Int) - f)
      rw [Int.toNat_of_nonneg this.1, Int.add_emod_emod, show f + ((u : Int) - f) = u by omega]
      exact Int.emod_eq_of_lt (by omega) (by omega)
    rw [e]; exact hn
end Go.Proofs.Ytniifpfhfpcmcaa
