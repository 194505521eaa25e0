/- Plain facts of FnSeats: strands of all steps are counted; broken strands against the counts. -/
import Derived.Test.YtgjjmgneekjapaaDoorBrk2
import Derived.Test.YtgjjmgneekjapaaDoorPairs4
namespace Go.Proofs.YtgjjmgneekjapaaDoor
open Go.RowKit
set_option linter.unusedVariables false
set_option linter.unusedSimpArgs false

theorem sum_set1 : ∀ (L : List Int) (i : Nat), i < L.length → (L.set i (L.getD i 0 + 1)).sum = L.sum + 1
  | [], i, h => by simp at h
  | x :: L, 0, _ => by simp; omega
  | x :: L, i + 1, h => by
    have h1 := sum_set1 L i (by simpa using h)
    simp only [List.set_cons_succ, List.sum_cons, List.getD_cons_succ]
    rw [h1]; omega
theorem getD_set1 (L : List Int) (i h : Nat) (hi : i < L.length) : (L.set i (L.getD i 0 + 1)).getD h 0 = L.getD h 0 + (if i = h then 1 else 0) := by
  simp only [List.getD_eq_getElem?_getD, List.getElem?_set]
  by_cases e : i = h
  · subst e; simp [hi]
  · rw [if_neg e, if_neg e]; simp
theorem upd1_eq (L : List Int) (p : Int × Int) : upd1 L p = L.set p.1.toNat (L.getD p.1.toNat 0 + 1) := rfl
theorem foldP_len (f b : Nat) (st : Int) (L : List Int) (k : Nat) : (((List.range k).map (stepP f b st)).foldl upd1 L).length = L.length := foldl_upd_len _ _
theorem foldP_succ (f b : Nat) (st : Int) (L : List Int) (k : Nat) : ((List.range (k + 1)).map (stepP f b st)).foldl upd1 L = upd1 (((List.range k).map (stepP f b st)).foldl upd1 L) (stepP f b st k) := by
  rw [map_range_succ, List.foldl_append]; rfl
theorem foldP_sum {f b s : Nat} {st : Int} {L : List Int} (hl : L.length = f) (h2 : st ≠ 2) (h4 : st ≠ 4) : ∀ k, k ≤ stepN f s st → (((List.range k).map (stepP f b st)).foldl upd1 L).sum = L.sum + k
  | 0, _ => by simp
  | k + 1, hk => by
    have ih := foldP_sum (b := b) (s := s) hl h2 h4 k (by omega)
    obtain ⟨h, e, hlt⟩ := stepP_fst (b := b) h2 h4 (show k < stepN f s st by omega)
    rw [foldP_succ, upd1_eq, e, Int.toNat_natCast, sum_set1 _ _ (by rw [foldP_len, hl]; exact hlt), ih]
    omega
theorem foldP_at {f b s : Nat} {st : Int} {L : List Int} (hl : L.length = f) (h2 : st ≠ 2) (h4 : st ≠ 4) (h : Nat) : ∀ k, k ≤ stepN f s st → (((List.range k).map (stepP f b st)).foldl upd1 L).getD h 0 = L.getD h 0 + (if hitB f b st h k then 1 else 0)
  | 0, _ => by simp [hitB]
  | k + 1, hk => by
    have ih := foldP_at (b := b) (s := s) hl h2 h4 h k (by omega)
    obtain ⟨g, e, hlt⟩ := stepP_fst (b := b) h2 h4 (show k < stepN f s st by omega)
    rw [foldP_succ, upd1_eq, e, Int.toNat_natCast, getD_set1 _ _ _ (by rw [foldP_len, hl]; exact hlt), ih, hitB, e]
    by_cases eg : g = h
    · subst eg
      have hn : hitB f b st (g : Int) k = false := by
        cases hb : hitB f b st (g : Int) k
        · rfl
        · exact absurd e (hit_no hb)
      rw [hn]; simp
    · have eg' : ¬ (g : Int) = (h : Int) := by omega
      rw [if_neg eg, decide_eq_false eg', Bool.or_false]; omega
/-- The strands of the first j steps but for the second and the fourth. -/
def sumS (f s : Nat) : Nat → Int
  | 0 => 0
  | j + 1 => if j + 1 = 2 ∨ j + 1 = 4 then sumS f s j else sumS f s j + stepN f s ((j : Int) + 1)
theorem saL_sum (f b s : Nat) : ∀ j, (saL f b s j).sum = sumS f s j
  | 0 => by simp [saL, sumS]
  | j + 1 => by
    unfold saL sumS
    split
    · exact saL_sum f b s j
    · rename_i h
      rw [pairsL, foldP_sum (saL_len f b s j) (by omega) (by omega) _ (Nat.le_refl _), saL_sum f b s j]
def cntS (f b s h : Nat) : Nat → Int
  | 0 => 0
  | j + 1 => if j + 1 = 2 ∨ j + 1 = 4 then cntS f b s h j else cntS f b s h j + (if hitB f b ((j : Int) + 1) h (stepN f s ((j : Int) + 1)) then 1 else 0)
theorem saL_at (f b s h : Nat) : ∀ j, (saL f b s j).getD h 0 = cntS f b s h j
  | 0 => by simp [saL, cntS, List.getD_eq_getElem?_getD, List.getElem?_replicate]; split <;> rfl
  | j + 1 => by
    unfold saL cntS
    split
    · exact saL_at f b s h j
    · rename_i h'
      rw [pairsL, foldP_at (saL_len f b s j) (by omega) (by omega) h _ (Nat.le_refl _), saL_at f b s h j]
theorem hitL_len' (f b : Nat) (st h : Int) (k : Nat) : ((hitL f b st h k).length : Int) = if hitB f b st h k then 1 else 0 := by
  unfold hitL; split <;> simp
theorem cntS_6 (f b s h : Nat) : cntS f b s h 6 = ((bsL f b s h 4).length : Int) := by
  have e1 := hitL_len' f b 1 h (stepN f s 1)
  have e3 := hitL_len' f b 3 h (stepN f s 3)
  have e5 := hitL_len' f b 5 h (stepN f s 5)
  have e6 := hitL_len' f b 6 h (stepN f s 6)
  have a1 : cntS f b s h 6 = 0 + (if hitB f b 1 h (stepN f s 1) then 1 else 0) + (if hitB f b 3 h (stepN f s 3) then 1 else 0) + (if hitB f b 5 h (stepN f s 5) then 1 else 0) + (if hitB f b 6 h (stepN f s 6) then 1 else 0) := rfl
  have a2 : bsL f b s h 4 = [] ++ hitL f b 1 h (stepN f s 1) ++ hitL f b 3 h (stepN f s 3) ++ hitL f b 5 h (stepN f s 5) ++ hitL f b 6 h (stepN f s 6) := rfl
  rw [a1, a2, ← e1, ← e3, ← e5, ← e6]
  simp only [List.length_append, List.length_nil, Nat.zero_add, Int.zero_add]
  omega
theorem strandsV_in {f b s : Int} (ho : okSeat f b s = true) {st : Int} (h : inB st 1 6 = true) : strandsV f b s st = ((stepN f.toNat s.toNat st : Int), 0) ∧ (stepN f.toNat s.toNat st : Int) ≤ 40 := by
  obtain ⟨⟨f0, f1⟩, ⟨b0, b1⟩, ⟨s0, s1⟩, _⟩ := (okSeat_iff _ _ _).1 ho
  have hc : codeP f b s st = 0 := by unfold codeP; rw [ho, h]; rfl
  refine ⟨?_, ?_⟩
  · show (((pairsV f b s st).length : Int), codeP f b s st) = _
    unfold pairsV
    rw [hc, if_pos rfl, pairsL_len]
  · have := stepN_le' (f := f.toNat) (s := s.toNat) (st := st) (by omega) (by omega)
    omega
theorem pairsV_len (f b s st : Int) : (pairsV f b s st).length ≤ 40 := by
  unfold pairsV
  by_cases h : codeP f b s st = 0
  · rw [if_pos h]
    unfold codeP at h
    cases ho : okSeat f b s
    · rw [ho] at h; simp at h
    obtain ⟨⟨f0, f1⟩, ⟨b0, b1⟩, ⟨s0, s1⟩, hmod⟩ := (okSeat_iff _ _ _).1 ho
    unfold pairsL stepN
    rw [List.length_map, List.length_range]
    split
    · omega
    · split <;> omega
  · rw [if_neg h]; simp
/-- What the counts up to a step say. -/
theorem atV_ok {f b s n : Int} (h : (atV f b s n).2 = 0) : okSeat f b s = true ∧ 0 ≤ n ∧ n ≤ 6 ∧ (atV f b s n).1.sum = sumS f.toNat s.toNat n.toNat ∧ (atV f b s n).1.length = f.toNat ∧ f ≤ 40 := by
  unfold atV at h ⊢
  split at h
  · rename_i ho
    rw [if_pos ho]
    split at h
    · rename_i hn
      rw [if_pos hn]
      obtain ⟨n0, n1⟩ := (inB_iff _ _ _).1 hn
      obtain ⟨⟨f0, f1⟩, _⟩ := (okSeat_iff _ _ _).1 ho
      exact ⟨ho, n0, n1, saL_sum _ _ _ _, saL_len _ _ _ _, f1⟩
    · cases h
  · cases h
theorem sumS_bd (f s : Nat) (hf : f ≤ 40) (hs : s ≤ 40) : ∀ j, 0 ≤ sumS f s j ∧ sumS f s j ≤ 40 * j
  | 0 => by simp [sumS]
  | j + 1 => by
    have h1 := sumS_bd f s hf hs j
    have h2 := stepN_le' (f := f) (s := s) (st := (j : Int) + 1) hf hs
    unfold sumS
    split <;> omega
/-- All numbers of the counts, and their sums, are small. -/
theorem saL_bd (f b s : Nat) (hf : f ≤ 40) (hs : s ≤ 40) : ∀ j, ∀ z ∈ saL f b s j, 0 ≤ z
  | 0 => by intro z hz; simp [saL] at hz; omega
  | j + 1 => by
    unfold saL
    split
    · exact saL_bd f b s hf hs j
    · rename_i h
      have key : ∀ (ps : List (Int × Int)) (L : List Int), (∀ z ∈ L, 0 ≤ z) → ∀ z ∈ ps.foldl upd1 L, 0 ≤ z := by
        intro ps
        induction ps with
        | nil => intro L h; exact h
        | cons p ps ih =>
          intro L h
          refine ih _ fun z hz => ?_
          unfold upd1 at hz
          rcases List.mem_or_eq_of_mem_set hz with h1 | h1
          · exact h z h1
          · subst h1
            rw [List.getD_eq_getElem?_getD]
            cases hg : L[p.1.toNat]? with
            | none => simp
            | some y => have := h y (List.mem_of_getElem? hg); simp; omega
      exact key _ _ (saL_bd f b s hf hs j)
theorem atV_nonneg {f b s n : Int} : ∀ z ∈ (atV f b s n).1, 0 ≤ z := by
  intro z hz
  unfold atV at hz
  split at hz
  · rename_i ho
    obtain ⟨⟨f0, f1⟩, ⟨b0, b1⟩, ⟨s0, s1⟩, _⟩ := (okSeat_iff _ _ _).1 ho
    split at hz
    · exact saL_bd _ _ _ (by omega) (by omega) _ z hz
    · simp at hz
  · simp at hz
/-- Broken strands against the counts of all steps. -/
theorem brkV_ok {f b s h : Int} (e : (brkV f b s h).2 = 0) : 0 ≤ h ∧ h < f ∧ (atV f b s 6).2 = 0 ∧ (atV f b s 6).1.length = f.toNat ∧ (atV f b s 6).1[h.toNat]? = some (((brkV f b s h).1.length : Nat) : Int) := by
  unfold brkV at e ⊢
  split at e
  · rename_i ho
    rw [if_pos ho]
    split at e
    · rename_i hh
      rw [if_pos hh]
      obtain ⟨h0, h1⟩ := (inB_iff _ _ _).1 hh
      have ha : atV f b s 6 = (saL f.toNat b.toNat s.toNat 6, 0) := by
        unfold atV; rw [if_pos ho, if_pos ((inB_iff _ _ _).2 (by omega))]; rfl
      rw [ha]
      refine ⟨h0, by omega, rfl, saL_len _ _ _ _, ?_⟩
      have hg := saL_at f.toNat b.toNat s.toNat h.toNat 6
      rw [cntS_6, Int.toNat_of_nonneg h0] at hg
      rw [List.getD_eq_getElem?_getD, List.getElem?_eq_getElem (by rw [saL_len]; omega)] at hg
      rw [List.getElem?_eq_getElem (by rw [saL_len]; omega)]
      exact congrArg some hg
    · cases e
  · cases e
end Go.Proofs.YtgjjmgneekjapaaDoor
