/- Plain facts of PackLevel: the search through all places. -/
import Derived.Test.YtkkipkmjhakknaaHand2
import Derived.Test.YtkkipkmjhakknaaIntR
namespace Go.Proofs.Ytkkipkmjhakknaa
open Go.RowKit
set_option linter.unusedVariables false
set_option linter.unusedSimpArgs false

def absI (m : Int) : Int := if m < 0 then -m else m
theorem absI_max (m : Int) : max m (-m) = absI m := by unfold absI; split <;> omega
theorem absI_nat (m : Int) : ((m.natAbs : Nat) : Int) = absI m := by unfold absI; split <;> omega
theorem absI_nonneg (m : Int) : 0 ≤ absI m := by unfold absI; split <;> omega
/-- All weights have a place. -/
def leafP (us : List Int) (m : Int) (st : List Int × Int) : List Int × Int := if st.2 < 0 ∨ absI m < st.2 then (us, absI m) else st
/-- d weights are still to be placed. -/
def packF (ws ps : List Int) (h : Int) : Nat → List Int → Int → List Int × Int → List Int × Int
  | 0, us, m, st => leafP us m st
  | d + 1, us, m, st => (List.range ps.length).foldl (fun st (i : Nat) => if hasI us i then st else packF ws ps h d (us ++ [(i : Int)]) (m + ws.getD us.length 0 * (ps.getD i 0 - h)) st) st
/-- The first k places of a round. -/
def packK (ws ps : List Int) (h : Int) (d : Nat) (us : List Int) (m : Int) (st : List Int × Int) (k : Nat) : List Int × Int :=
  (List.range k).foldl (fun st (i : Nat) => if hasI us i then st else packF ws ps h d (us ++ [(i : Int)]) (m + ws.getD us.length 0 * (ps.getD i 0 - h)) st) st
theorem packF_succ (ws ps : List Int) (h : Int) (d : Nat) (us : List Int) (m : Int) (st : List Int × Int) : packF ws ps h (d + 1) us m st = packK ws ps h d us m st ps.length := rfl
theorem packK_zero (ws ps : List Int) (h : Int) (d : Nat) (us : List Int) (m : Int) (st : List Int × Int) : packK ws ps h d us m st 0 = st := rfl
theorem packK_succ (ws ps : List Int) (h : Int) (d : Nat) (us : List Int) (m : Int) (st : List Int × Int) (k : Nat) : packK ws ps h d us m st (k + 1) = if hasI us k then packK ws ps h d us m st k else packF ws ps h d (us ++ [(k : Int)]) (m + ws.getD us.length 0 * (ps.getD k 0 - h)) (packK ws ps h d us m st k) := by
  unfold packK
  rw [List.range_succ, List.foldl_append]; rfl
/-- The moment of weights at places. -/
def momP (ws ps : List Int) (h : Int) (us : List Int) : Int := ((List.range us.length).map fun j : Nat => ws.getD j 0 * (ps.getD (us.getD j 0).toNat 0 - h)).sum
theorem momP_snoc (ws ps : List Int) (h : Int) (us : List Int) (i : Nat) : momP ws ps h (us ++ [(i : Int)]) = momP ws ps h us + ws.getD us.length 0 * (ps.getD i 0 - h) := by
  unfold momP
  rw [List.length_append, List.length_singleton, List.range_succ, List.map_append, List.sum_append]
  congr 1
  · congr 1
    apply List.map_congr_left
    intro j hj
    have hj := List.mem_range.1 hj
    have e : (us ++ [(i : Int)]).getD j 0 = us.getD j 0 := by simp only [List.getD_eq_getElem?_getD]; rw [List.getElem?_append_left hj]
    rw [e]
  · simp
/-- Different places, in range. -/
def Plc (n : Nat) (us : List Int) : Prop := us.Nodup ∧ ∀ u ∈ us, 0 ≤ u ∧ u < n
theorem Plc.nil (n : Nat) : Plc n [] := ⟨List.nodup_nil, fun u hu => by cases hu⟩
theorem hasP_iff {us : List Int} {z : Int} : hasI us z = true ↔ z ∈ us := by unfold hasI; rw [decide_eq_true_iff]
theorem Plc.snoc {n : Nat} {us : List Int} {i : Nat} (h : Plc n us) (hi : i < n) (hn : hasI us i = false) : Plc n (us ++ [(i : Int)]) := by
  refine ⟨List.nodup_append.2 ⟨h.1, by simp, fun a ha b hb e => ?_⟩, fun u hu => ?_⟩
  · simp at hb
    subst hb; subst e
    rw [hasP_iff.2 ha] at hn; cases hn
  · rcases List.mem_append.1 hu with h1 | h1
    · exact h.2 u h1
    · simp at h1; subst h1; omega
/-- Nothing told yet, or places whose moment is told. -/
def Told (ws ps : List Int) (h : Int) (st : List Int × Int) : Prop := (st.1 = [] ∧ st.2 = -1) ∨ (Plc ps.length st.1 ∧ st.1.length = ws.length ∧ st.2 = absI (momP ws ps h st.1))
theorem told_lo {ws ps : List Int} {h : Int} {st : List Int × Int} (g : Told ws ps h st) : -1 ≤ st.2 := by
  rcases g with ⟨_, e⟩ | ⟨_, _, e⟩
  · omega
  · have := absI_nonneg (momP ws ps h st.1); omega
theorem packF_told (ws ps : List Int) (h : Int) : ∀ (d : Nat) (us : List Int) (st : List Int × Int), us.length + d = ws.length → Plc ps.length us → Told ws ps h st → Told ws ps h (packF ws ps h d us (momP ws ps h us) st)
  | 0, us, st, hl, hp, hs => by
    unfold packF leafP
    split
    · exact .inr ⟨hp, by omega, rfl⟩
    · exact hs
  | d + 1, us, st, hl, hp, hs => by
    rw [packF_succ]
    have key : ∀ k, k ≤ ps.length → Told ws ps h (packK ws ps h d us (momP ws ps h us) st k) := by
      intro k
      induction k with
      | zero => intro _; exact hs
      | succ k ih =>
        intro hk
        rw [packK_succ]
        have ih := ih (by omega)
        cases hh : hasI us k
        · rw [if_neg (by simp), ← momP_snoc]
          exact packF_told ws ps h d _ _ (by simp; omega) (hp.snoc (by omega) hh) ih
        · rw [if_pos rfl]; exact ih
    exact key _ (Nat.le_refl _)
/-- It never grows. -/
theorem packF_mono (ws ps : List Int) (h : Int) : ∀ (d : Nat) (us : List Int) (m : Int) (st : List Int × Int), 0 ≤ st.2 → 0 ≤ (packF ws ps h d us m st).2 ∧ (packF ws ps h d us m st).2 ≤ st.2
  | 0, us, m, st, hs => by
    unfold packF leafP
    have := absI_nonneg m
    split
    · rename_i g; simp only; omega
    · omega
  | d + 1, us, m, st, hs => by
    rw [packF_succ]
    have key : ∀ k, 0 ≤ (packK ws ps h d us m st k).2 ∧ (packK ws ps h d us m st k).2 ≤ st.2 := by
      intro k
      induction k with
      | zero => rw [packK_zero]; omega
      | succ k ih =>
        rw [packK_succ]
        split
        · exact ih
        · have := packF_mono ws ps h d (us ++ [(k : Int)]) (m + ws.getD us.length 0 * (ps.getD k 0 - h)) (packK ws ps h d us m st k) ih.1
          omega
    exact key _
theorem packK_mono (ws ps : List Int) (h : Int) (d : Nat) (us : List Int) (m : Int) (st : List Int × Int) (k : Nat) : ∀ j, 0 ≤ (packK ws ps h d us m st k).2 → 0 ≤ (packK ws ps h d us m st (k + j)).2 ∧ (packK ws ps h d us m st (k + j)).2 ≤ (packK ws ps h d us m st k).2
  | 0, h0 => ⟨h0, Int.le_refl _⟩
  | j + 1, h0 => by
    have ih := packK_mono ws ps h d us m st k j h0
    rw [← Nat.add_assoc, packK_succ]
    split
    · exact ih
    · have := packF_mono ws ps h d (us ++ [((k + j : Nat) : Int)]) (m + ws.getD us.length 0 * (ps.getD (k + j) 0 - h)) (packK ws ps h d us m st (k + j)) ih.1
      omega
/-- Every way to place the rest is tried. -/
theorem packF_least (ws ps : List Int) (h : Int) : ∀ (d : Nat) (us ext : List Int) (st : List Int × Int), ext.length = d → Plc ps.length (us ++ ext) → 0 ≤ (packF ws ps h d us (momP ws ps h us) st).2 ∧ (packF ws ps h d us (momP ws ps h us) st).2 ≤ absI (momP ws ps h (us ++ ext))
  | 0, us, ext, st, hl, hp => by
    obtain rfl : ext = [] := List.eq_nil_of_length_eq_zero hl
    rw [List.append_nil]
    unfold packF leafP
    have := absI_nonneg (momP ws ps h us)
    split
    · simp only; omega
    · rename_i g; omega
  | d + 1, us, [], st, hl, hp => by simp at hl
  | d + 1, us, x :: ext, st, hl, hp => by
    have hx := hp.2 x (by simp)
    obtain ⟨i, rfl⟩ := Int.eq_ofNat_of_zero_le hx.1
    have hi : i < ps.length := by omega
    have hn : hasI us i = false := by
      cases hh : hasI us (i : Int)
      · rfl
      · exact absurd rfl ((List.nodup_append.1 hp.1).2.2 _ (hasP_iff.1 hh) _ (List.mem_cons_self ..))
    have e : us ++ (i : Int) :: ext = (us ++ [(i : Int)]) ++ ext := by simp
    rw [e] at hp ⊢
    rw [packF_succ]
    have h1 := packF_least ws ps h d (us ++ [(i : Int)]) ext (packK ws ps h d us (momP ws ps h us) st i) (by simpa using hl) hp
    have h2 : packK ws ps h d us (momP ws ps h us) st (i + 1) = packF ws ps h d (us ++ [(i : Int)]) (momP ws ps h (us ++ [(i : Int)])) (packK ws ps h d us (momP ws ps h us) st i) := by
      rw [packK_succ, if_neg (by rw [hn]; simp), momP_snoc]
    rw [← h2] at h1
    have h3 := packK_mono ws ps h d us (momP ws ps h us) st (i + 1) (ps.length - (i + 1)) h1.1
    rw [show i + 1 + (ps.length - (i + 1)) = ps.length by omega] at h3
    omega
theorem momP_bd (ws ps : List Int) (h : Int) (us : List Int) (hw : ∀ x ∈ ws, 0 ≤ x ∧ x ≤ 10000) (hp : ∀ x ∈ ps, 0 ≤ x ∧ x ≤ 1000) (h0 : 0 ≤ h) (h1 : h ≤ 1000) : -(10000000 * us.length) ≤ momP ws ps h us ∧ momP ws ps h us ≤ 10000000 * us.length := by
  have gd : ∀ (l : List Int) (j : Nat) (M : Int), 0 ≤ M → (∀ x ∈ l, 0 ≤ x ∧ x ≤ M) → 0 ≤ l.getD j 0 ∧ l.getD j 0 ≤ M := by
    intro l j M hM hl
    rw [List.getD_eq_getElem?_getD]
    cases hg : l[j]? with
    | none => simp; exact hM
    | some y => simpa using hl y (List.mem_of_getElem? hg)
  unfold momP
  generalize us.length = n
  induction n with
  | zero => simp
  | succ n ih =>
    rw [List.range_succ, List.map_append, List.sum_append]
    have a := gd ws n 10000 (by omega) hw
    have b := gd ps (us.getD n 0).toNat 1000 (by omega) hp
    simp only [List.map_cons, List.map_nil, List.sum_cons, List.sum_nil]
    generalize ws.getD n 0 = x at *
    generalize ps.getD (us.getD n 0).toNat 0 = y at *
    have c1 : x * (y - h) ≤ 10000000 := by
      have := mulb (x := x) (y := y) (A := 10000) (B := 1000) (by omega) (by omega) (by omega) (by omega)
      have := mulb (x := x) (y := h) (A := 10000) (B := 1000) (by omega) (by omega) (by omega) (by omega)
      rw [Int.mul_sub]; omega
    have c2 : -10000000 ≤ x * (y - h) := by
      have := mulb (x := x) (y := y) (A := 10000) (B := 1000) (by omega) (by omega) (by omega) (by omega)
      have := mulb (x := x) (y := h) (A := 10000) (B := 1000) (by omega) (by omega) (by omega) (by omega)
      rw [Int.mul_sub]; omega
    omega
/-- What PackLevel tells. -/
def packOk (ws ps : List Int) (h : Int) : Bool := decide (ws.length ≤ 6) && decide (ps.length ≤ 6) && allIn ws 1 10000 && allIn ps 0 1000 && inB h 0 1000
def packV (ws ps : List Int) (h : Int) : List Int × Int × Int :=
  if packOk ws ps h then (if ps.length < ws.length then ([], 0, 5) else ((packF ws ps h ws.length [] 0 ([], -1)).1, (packF ws ps h ws.length [] 0 ([], -1)).2, 0)) else ([], 0, 2)
end Go.Proofs.Ytkkipkmjhakknaa
