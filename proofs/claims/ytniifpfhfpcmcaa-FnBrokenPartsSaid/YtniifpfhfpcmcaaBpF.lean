/- Plain facts of FnBrokenParts. -/
import Derived.Test.YtniifpfhfpcmcaaRep
import Derived.Test.YtniifpfhfpcmcaaBrkS
import Derived.Test.YtniifpfhfpcmcaaMostL
import Derived.Test.YtniifpfhfpcmcaaPartY
namespace Go.Proofs.Ytniifpfhfpcmcaa
open Go.RowKit
set_option linter.unusedVariables false
set_option linter.unusedSimpArgs false

/-- The stakes of a part. -/
def stkOf (s : Nat) (p : Int × Int) : List Int := (List.range p.2.toNat).map fun j : Nat => at_ s p.1 j
def allU (s : Nat) (zs : List Int) : List Int := (partsL s zs).flatMap (stkOf s)
theorem mem_stk {s : Nat} {p : Int × Int} {x : Int} (hx : x ∈ stkOf s p) : ∃ j : Nat, j < p.2.toNat ∧ x = at_ s p.1 j := by
  unfold stkOf at hx
  obtain ⟨j, hj, rfl⟩ := List.mem_map.1 hx
  exact ⟨j, List.mem_range.1 hj, rfl⟩
theorem stk_nodup {s : Nat} {p : Int × Int} (hp : p.2.toNat ≤ s) : (stkOf s p).Nodup := by
  unfold stkOf
  rw [List.Nodup, List.pairwise_map]
  refine List.Pairwise.imp_of_mem ?_ (List.pairwise_lt_range (n := p.2.toNat))
  intro i j hi hj hij e
  have h1 := List.mem_range.1 hi
  have h2 := List.mem_range.1 hj
  have := at_inj (by omega) (by omega) e
  omega
theorem parts_rise {s : Nat} {zs : List Int} (h : Ris s zs) : (partsL s zs).Pairwise fun p q => p.1 < q.1 := by
  unfold partsL
  rw [List.pairwise_map]
  exact (h.pw.filter _).imp (fun h => by simp only; omega)
theorem allU_nodup {s : Nat} {zs : List Int} (h : Ris s zs) (hs : 1 ≤ s) : (allU s zs).Nodup := by
  unfold allU
  rw [List.Nodup, List.pairwise_flatMap]
  refine ⟨fun p hp => ?_, ?_⟩
  · obtain ⟨_, _, e⟩ := mem_parts hp
    exact stk_nodup (by rw [e]; exact (runLen_is hs zs p.1).hi)
  · refine List.Pairwise.imp_of_mem ?_ (parts_rise h)
    intro p q hp hq hne x hx y hy e
    subst e
    obtain ⟨a1, a2, a3⟩ := mem_parts hp
    obtain ⟨b1, b2, b3⟩ := mem_parts hq
    obtain ⟨i, hi, e1⟩ := mem_stk hx
    obtain ⟨j, hj, e2⟩ := mem_stk hy
    rw [a3, Int.toNat_natCast] at hi
    rw [b3, Int.toNat_natCast] at hj
    have := runs_meet h hs a1 a2 b1 b2 hi hj (e1.symm.trans e2)
    omega
theorem allU_len {s : Nat} {zs : List Int} (h : Ris s zs) (hs : 1 ≤ s) : (allU s zs).length = zs.length := by
  have h1 : (allU s zs).length ≤ zs.length := nodup_len (allU_nodup h hs) fun x hx => by
    unfold allU at hx
    obtain ⟨p, hp, hx⟩ := List.mem_flatMap.1 hx
    obtain ⟨a1, a2, a3⟩ := mem_parts hp
    obtain ⟨j, hj, rfl⟩ := mem_stk hx
    rw [a3, Int.toNat_natCast] at hj
    exact run_mem h hs a1 hj
  have hn : zs.Nodup := h.pw.imp (fun h => by omega)
  have h2 : zs.length ≤ (allU s zs).length := nodup_len hn fun x hx => by
    obtain ⟨f, hf, hst, i, hi, rfl⟩ := in_part h hs hx
    unfold allU
    refine List.mem_flatMap.2 ⟨(f, (runLen s zs f : Int)), ?_, ?_⟩
    · unfold partsL
      exact List.mem_map.2 ⟨f, List.mem_filter.2 ⟨hf, hst⟩, rfl⟩
    · unfold stkOf
      exact List.mem_map.2 ⟨i, List.mem_range.2 (by simpa using hi), rfl⟩
  omega
def sumP (ps : List (Int × Int)) : Int := (ps.map (·.2)).sum
theorem sumP_flat (s : Nat) : ∀ ps : List (Int × Int), (∀ p ∈ ps, 0 ≤ p.2) → ((ps.flatMap (stkOf s)).length : Int) = sumP ps
  | [], _ => rfl
  | p :: ps, h => by
    have h1 := sumP_flat s ps (fun q hq => h q (List.mem_cons_of_mem _ hq))
    have h2 := h p (List.mem_cons_self ..)
    rw [List.flatMap_cons, List.length_append]
    unfold sumP at h1 ⊢
    rw [List.map_cons, List.sum_cons, ← h1]
    have h3 : (stkOf s p).length = p.2.toNat := by unfold stkOf; simp
    rw [h3]
    omega
theorem sumP_all {s : Nat} {zs : List Int} (h : Ris s zs) (hs : 1 ≤ s) : sumP (partsL s zs) = (zs.length : Int) := by
  rw [← sumP_flat s _ (fun p hp => by obtain ⟨_, _, e⟩ := mem_parts hp; rw [e]; omega)]
  exact congrArg _ (allU_len h hs)
theorem sumP_succ {ps : List (Int × Int)} {k : Nat} {p : Int × Int} (h : ps[k]? = some p) : sumP (ps.take (k + 1)) = sumP (ps.take k) + p.2 := by
  unfold sumP; rw [List.take_add_one, h]; simp
theorem sumP_bd {ps : List (Int × Int)} (h : ∀ p ∈ ps, 0 ≤ p.2 ∧ p.2 ≤ 60) : ∀ k : Nat, 0 ≤ sumP (ps.take k) ∧ sumP (ps.take k) ≤ 60 * (k : Int)
  | 0 => by simp [sumP]
  | k + 1 => by
    have ih := sumP_bd h k
    cases hp : ps[k]? with
    | none =>
      rw [List.take_add_one, hp]
      simp only [Option.toList, List.append_nil]
      omega
    | some p =>
      have := h p (List.mem_of_getElem? hp)
      rw [sumP_succ hp]
      omega
/-- The longest part, as the law finds it. -/
def longW (ps : List (Int × Int)) : Int × Int := ps.foldl lg (-1, 0)
theorem longW_succ {ps : List (Int × Int)} {k : Nat} {p : Int × Int} (h : ps[k]? = some p) : longW (ps.take (k + 1)) = lg (longW (ps.take k)) p := by
  unfold longW; rw [List.take_add_one, h, List.foldl_append]; rfl
theorem lg_rel (ps : List (Int × Int)) : ∀ x y : Int × Int, x.2 = y.2 → 0 ≤ y.2 → (0 < y.2 → x.1 = y.1) → (ps.foldl lg x).2 = (ps.foldl lg y).2 ∧ 0 ≤ (ps.foldl lg y).2 ∧ (0 < (ps.foldl lg y).2 → (ps.foldl lg x).1 = (ps.foldl lg y).1) := by
  induction ps with
  | nil => exact fun x y h1 h0 h2 => ⟨h1, h0, h2⟩
  | cons p ps ih =>
    intro x y h1 h0 h2
    refine ih _ _ ?_ ?_ ?_
    · unfold lg; rw [h1]; split <;> first | rfl | exact h1
    · unfold lg; split <;> omega
    · unfold lg; rw [h1]; split
      · exact fun _ => rfl
      · exact h2
theorem longW_L (ps : List (Int × Int)) : (longW ps).2 = (longL ps).2 ∧ 0 ≤ (longL ps).2 ∧ (0 < (longL ps).2 → (longW ps).1 = (longL ps).1) := lg_rel ps _ _ rfl (Int.le_refl 0) (fun h => by simp at h)
theorem longW_bd {ps : List (Int × Int)} : 0 ≤ (longW ps).2 := by have := longW_L ps; omega
/-- The first stake of the part ahead. -/
def lastP (ps : List (Int × Int)) (k : Nat) : Int := if k = 0 then -1 else (ps.getD (k - 1) (0, 0)).1
theorem lastP_succ {ps : List (Int × Int)} {k : Nat} {p : Int × Int} (h : ps[k]? = some p) : lastP ps (k + 1) = p.1 := by
  unfold lastP
  rw [if_neg (by omega), Nat.add_sub_cancel, List.getD_eq_getElem?_getD, h]; rfl
theorem lastP_lt {s : Nat} {zs : List Int} (h : Ris s zs) (hs : 1 ≤ s) {k : Nat} {p : Int × Int} (hp : (partsL s zs)[k]? = some p) : lastP (partsL s zs) k < p.1 := by
  obtain ⟨⟨p0, _⟩, _⟩ := partsL_at h hs hp
  unfold lastP
  split
  · omega
  · obtain ⟨hk, ek⟩ := List.getElem?_eq_some_iff.1 hp
    have h1 : (partsL s zs)[k - 1]? = some ((partsL s zs)[k - 1]'(by omega)) := List.getElem?_eq_getElem _
    rw [List.getD_eq_getElem?_getD, h1]
    have := List.pairwise_iff_getElem.1 (parts_rise h) (k - 1) k (by omega) hk (by omega)
    rw [ek] at this
    exact this
/-- What is told of a part. -/
theorem part_facts {s : Nat} {zs : List Int} (h : Ris s zs) (hs : 1 ≤ s) {k : Nat} {p : Int × Int} (hp : (partsL s zs)[k]? = some p) : ∃ v : Nat, p.2 = v ∧ 1 ≤ v ∧ v ≤ s ∧ 0 ≤ p.1 ∧ p.1 < s ∧ (∀ j : Nat, j < v → hasI zs ((p.1 + j) % s) = true) ∧ (v < s → hasI zs ((p.1 + v) % s) = false ∧ hasI zs ((p.1 + s - 1) % s) = false) := by
  obtain ⟨⟨p0, p1⟩, p2, p3⟩ := partsL_at h hs hp
  have hm := List.mem_of_getElem? hp
  obtain ⟨a1, a2, a3⟩ := mem_parts hm
  have hr := runLen_is hs zs p.1
  refine ⟨runLen s zs p.1, a3, by omega, by omega, p0, p1, fun j hj => hasI_iff.2 (run_mem h hs a1 hj), fun hv => ⟨?_, ?_⟩⟩
  · rcases hr.stop with e | e
    · omega
    · exact e
  · unfold startB at a2
    rw [Bool.or_eq_true] at a2
    rcases a2 with e | e
    · simpa using e
    · rw [Bool.and_eq_true, decide_eq_true_iff, decide_eq_true_iff] at e
      rw [partsL_full h hs e.1] at hm
      simp at hm
      subst hm
      have a3' : (s : Int) = (runLen s zs 0 : Int) := a3
      have hv' : runLen s zs 0 < s := hv
      omega
theorem put_ris {s : Nat} {zs : List Int} (h : Ris s zs) {x : Int} (x0 : 0 ≤ x) (x1 : x < s) (hx : hasI zs x = false) : Ris s (putS zs x) ∧ (putS zs x).length = zs.length + 1 ∧ hasI (putS zs x) x = true := by
  have hn : x ∉ zs := fun hm => by rw [hasI_iff.2 hm] at hx; cases hx
  obtain ⟨hp, hw⟩ := putS_new h.pw hn
  refine ⟨⟨hw, fun z hz => ?_⟩, by rw [hp.length_eq]; rfl, hasI_iff.2 (hp.mem_iff.2 (List.mem_cons_self ..))⟩
  rcases List.mem_cons.1 (hp.mem_iff.1 hz) with rfl | hz'
  · exact ⟨x0, x1⟩
  · exact h.rng z hz'
theorem extra_ge {s g : Nat} {zs nx : List Int} (hs : 1 ≤ s) (hr : Ris s nx) (hl : nx.length = zs.length + 1) (hg : (newL s nx).length ≤ g) : (zs.length : Int) + 1 ≤ ((min s (2 * g) : Nat) : Int) := by
  rw [newL_len] at hg
  have h1 := newU_half hr hs
  have h2 := hr.len
  omega
theorem extra_lo {s g : Nat} {zs : List Int} (hs : 1 ≤ s) (hr : Ris s zs) (hg : (newL s zs).length ≤ g) : (zs.length : Int) ≤ ((min s (2 * g) : Nat) : Int) := by
  rw [newL_len] at hg
  have h1 := newU_half hr hs
  have h2 := hr.len
  omega
end Go.Proofs.Ytniifpfhfpcmcaa
