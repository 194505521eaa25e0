/- Plain facts of MostBroken: what so many gaps can close at most. -/
import Derived.Test.YtniifpfhfpcmcaaNewC
namespace Go.Proofs.Ytniifpfhfpcmcaa
open Go.RowKit
set_option linter.unusedVariables false
set_option linter.unusedSimpArgs false

/-- How many of 0 .. n - 1 are such. -/
def cnt (p : Nat → Bool) : Nat → Nat
  | 0 => 0
  | n + 1 => cnt p n + (p n).toNat
theorem cnt_le (p : Nat → Bool) : ∀ n, cnt p n ≤ n
  | 0 => Nat.le_refl _
  | n + 1 => by have := cnt_le p n; unfold cnt; cases p n <;> simp <;> omega
theorem cnt_congr {p q : Nat → Bool} : ∀ {n : Nat}, (∀ k, k < n → p k = q k) → cnt p n = cnt q n
  | 0, _ => rfl
  | n + 1, h => by unfold cnt; rw [cnt_congr (n := n) (fun k hk => h k (by omega)), h n (by omega)]
theorem cnt_all {p : Nat → Bool} : ∀ {n : Nat}, (∀ k, k < n → p k = true) → cnt p n = n
  | 0, _ => rfl
  | n + 1, h => by unfold cnt; rw [cnt_all (n := n) (fun k hk => h k (by omega)), h n (by omega)]; rfl
theorem cnt_filter (p : Nat → Bool) : ∀ n, cnt p n = ((List.range n).filter p).length
  | 0 => rfl
  | n + 1 => by
    unfold cnt
    rw [List.range_succ, List.filter_append, List.length_append, cnt_filter p n]
    cases h : p n <;> simp [h]
/-- The gap ahead of stake k. -/
def pvB (x : Nat → Bool) (s k : Nat) : Bool := if k = 0 then x (s - 1) else x (k - 1)
def covB (x : Nat → Bool) (s k : Nat) : Bool := x k || pvB x s k
def DisB (x : Nat → Bool) (s : Nat) : Prop := ∀ k, k < s → ¬ (x k = true ∧ pvB x s k = true)
theorem pvB_succ (x : Nat → Bool) (s k : Nat) : pvB x s (k + 1) = x k := by unfold pvB; rw [if_neg (by omega)]; rfl
theorem cnt_pv (x : Nat → Bool) (s : Nat) : ∀ n, cnt (pvB x s) (n + 1) = cnt x n + (x (s - 1)).toNat
  | 0 => by simp [cnt, pvB]
  | n + 1 => by
    have ih := cnt_pv x s n
    rw [show cnt (pvB x s) (n + 1 + 1) = cnt (pvB x s) (n + 1) + (pvB x s (n + 1)).toNat from rfl, ih, pvB_succ]
    rw [show cnt x (n + 1) = cnt x n + (x n).toNat from rfl]
    omega
theorem cnt_pv_all (x : Nat → Bool) {s : Nat} (hs : 1 ≤ s) : cnt (pvB x s) s = cnt x s := by
  obtain ⟨n, rfl⟩ : ∃ n, s = n + 1 := ⟨s - 1, by omega⟩
  rw [cnt_pv]; rfl
theorem cnt_or {p q : Nat → Bool} : ∀ {n : Nat}, (∀ k, k < n → ¬ (p k = true ∧ q k = true)) → cnt (fun k => p k || q k) n = cnt p n + cnt q n
  | 0, _ => rfl
  | n + 1, h => by
    have ih := cnt_or (n := n) (fun k hk => h k (by omega))
    have h1 := h n (by omega)
    unfold cnt
    rw [ih]
    cases hp : p n <;> cases hq : q n <;> simp [hp, hq] at h1 ⊢ <;> omega
theorem cnt_cov {x : Nat → Bool} {s : Nat} (hs : 1 ≤ s) (hd : DisB x s) : cnt (covB x s) s = 2 * cnt x s := by
  have h1 := cnt_or (p := x) (q := pvB x s) hd
  have h2 := cnt_pv_all x hs
  have h3 : cnt (covB x s) s = cnt (fun k => x k || pvB x s k) s := rfl
  omega
/-- The last stake that is not such. -/
theorem last_no {p : Nat → Bool} : ∀ {n : Nat}, cnt p n + 1 ≤ n → ∃ u, u < n ∧ p u = false ∧ ∀ j, u < j → j < n → p j = true
  | 0, h => by omega
  | n + 1, h => by
    cases hp : p n
    · exact ⟨n, by omega, hp, fun j h1 h2 => by omega⟩
    · have h' : cnt p n + 1 ≤ n := by
        rw [show cnt p (n + 1) = cnt p n + (p n).toNat from rfl, hp] at h
        simp at h; omega
      obtain ⟨u, hu, h1, h2⟩ := last_no h'
      exact ⟨u, by omega, h1, fun j h3 h4 => by
        rcases Nat.lt_succ_iff_lt_or_eq.1 h4 with h5 | rfl
        · exact h2 j h3 h5
        · exact hp⟩
theorem two_no {p : Nat → Bool} : ∀ {n : Nat}, cnt p n + 2 ≤ n → ∃ u v, u < v ∧ v < n ∧ p u = false ∧ p v = false ∧ ∀ j, u < j → j < v → p j = true
  | 0, h => by omega
  | n + 1, h => by
    cases hp : p n
    · have h' : cnt p n + 1 ≤ n := by
        rw [show cnt p (n + 1) = cnt p n + (p n).toNat from rfl, hp] at h
        simp at h; omega
      obtain ⟨u, hu, h1, h2⟩ := last_no h'
      exact ⟨u, n, hu, by omega, h1, hp, h2⟩
    · have h' : cnt p n + 2 ≤ n := by
        rw [show cnt p (n + 1) = cnt p n + (p n).toNat from rfl, hp] at h
        simp at h; omega
      obtain ⟨u, v, h1, h2, h3⟩ := two_no h'
      exact ⟨u, v, h1, by omega, h3⟩
theorem cnt_two {p q : Nat → Bool} {u v : Nat} : ∀ {n : Nat}, u < v → p u = false → p v = false → (∀ k, k < n → q k = (p k || decide (k = u) || decide (k = v))) → cnt q n = cnt p n + (if u < n then 1 else 0) + (if v < n then 1 else 0)
  | 0, _, _, _, _ => by simp [cnt]
  | n + 1, h1, h2, h3, h4 => by
    have ih := cnt_two (n := n) h1 h2 h3 (fun k hk => h4 k (by omega))
    unfold cnt
    rw [ih, h4 n (by omega)]
    by_cases e1 : n = u
    · subst e1
      rw [h2]
      simp
      rw [if_neg (by omega), if_neg (by omega)]
    · by_cases e2 : n = v
      · subst e2
        rw [h3]
        simp [e1]
        rw [if_pos (by omega), if_pos (by omega)]
      · rw [decide_eq_false e1, decide_eq_false e2]
        simp only [Bool.or_false]
        by_cases a1 : u < n <;> by_cases a2 : v < n
        · rw [if_pos a1, if_pos a2, if_pos (by omega), if_pos (by omega)]; omega
        · rw [if_pos a1, if_neg a2, if_pos (by omega), if_neg (by omega)]; omega
        · rw [if_neg a1, if_pos a2, if_neg (by omega), if_pos (by omega)]; omega
        · rw [if_neg a1, if_neg a2, if_neg (by omega), if_neg (by omega)]; omega
/-- Between two stakes that are not closed all gaps turn. -/
def flipB (x : Nat → Bool) (u v j : Nat) : Bool := if u ≤ j ∧ j < v then !x j else x j
theorem flip_in {x : Nat → Bool} {u v j : Nat} (h1 : u ≤ j) (h2 : j < v) : flipB x u v j = !x j := if_pos ⟨h1, h2⟩
theorem flip_out {x : Nat → Bool} {u v j : Nat} (h : j < u ∨ v ≤ j) : flipB x u v j = x j := if_neg (by omega)
theorem flip_pv {x : Nat → Bool} {u v s k : Nat} (hv : v < s) (h : k ≤ u ∨ v < k) : pvB (flipB x u v) s k = pvB x s k := by
  unfold pvB
  by_cases e : k = 0
  · rw [if_pos e, if_pos e, flip_out (by omega)]
  · rw [if_neg e, if_neg e, flip_out (by omega)]
theorem flip_pv_in {x : Nat → Bool} {u v s k : Nat} (h1 : u < k) (h2 : k ≤ v) : pvB (flipB x u v) s k = !pvB x s k := by
  unfold pvB
  rw [if_neg (by omega), if_neg (by omega), flip_in (by omega) (by omega)]
theorem cov_no {x : Nat → Bool} {s k : Nat} (h : covB x s k = false) : x k = false ∧ pvB x s k = false := by
  unfold covB at h; simpa using h
theorem flip_cov {x : Nat → Bool} {s u v : Nat} (hd : DisB x s) (huv : u < v) (hv : v < s) (h1 : covB x s u = false) (h2 : covB x s v = false) (h3 : ∀ j, u < j → j < v → covB x s j = true) (k : Nat) (hk : k < s) : covB (flipB x u v) s k = (covB x s k || decide (k = u) || decide (k = v)) := by
  obtain ⟨a1, a2⟩ := cov_no h1
  obtain ⟨b1, b2⟩ := cov_no h2
  by_cases e1 : k = u
  · subst e1
    unfold covB
    rw [flip_in (Nat.le_refl _) huv, a1]; simp
  by_cases e2 : k = v
  · subst e2
    unfold covB
    rw [flip_pv_in huv (Nat.le_refl _), b2]; simp
  rw [decide_eq_false e1, decide_eq_false e2, Bool.or_false, Bool.or_false]
  by_cases hin : u < k ∧ k < v
  · have hc := h3 k hin.1 hin.2
    have hdk := hd k hk
    rw [hc]
    unfold covB at hc ⊢
    rw [flip_in (by omega) hin.2, flip_pv_in hin.1 (by omega)]
    cases hx : x k <;> cases hp : pvB x s k <;> simp [hx, hp] at hdk ⊢
  · unfold covB
    rw [flip_out (by omega), flip_pv hv (by omega)]
theorem flip_dis {x : Nat → Bool} {s u v : Nat} (hd : DisB x s) (huv : u < v) (hv : v < s) (h1 : covB x s u = false) (h2 : covB x s v = false) (h3 : ∀ j, u < j → j < v → covB x s j = true) : DisB (flipB x u v) s := by
  obtain ⟨a1, a2⟩ := cov_no h1
  obtain ⟨b1, b2⟩ := cov_no h2
  intro k hk
  have hdk := hd k hk
  by_cases hin : u < k ∧ k < v
  · have hc := h3 k hin.1 hin.2
    unfold covB at hc
    rw [flip_in (by omega) hin.2, flip_pv_in hin.1 (by omega)]
    cases hx : x k <;> cases hp : pvB x s k <;> simp [hx, hp] at hc ⊢
  by_cases e1 : k = u
  · subst e1
    rw [flip_pv hv (by omega), a2]; simp
  by_cases e2 : k = v
  · subst e2
    rw [flip_out (by omega), b1]; simp
  rw [flip_out (by omega), flip_pv hv (by omega)]
  exact hdk
/-- One gap more closes two stakes more. -/
theorem one_more {x : Nat → Bool} {s : Nat} (hs : 1 ≤ s) (hd : DisB x s) (h : 2 * (cnt x s + 1) ≤ s) : ∃ y, DisB y s ∧ cnt y s = cnt x s + 1 ∧ ∀ k, k < s → covB x s k = true → covB y s k = true := by
  have hc := cnt_cov hs hd
  obtain ⟨u, v, huv, hv, h1, h2, h3⟩ := two_no (p := covB x s) (n := s) (by omega)
  have hf := flip_cov hd huv hv h1 h2 h3
  have hd2 := flip_dis hd huv hv h1 h2 h3
  refine ⟨flipB x u v, hd2, ?_, fun k hk hcv => by rw [hf k hk, hcv]; rfl⟩
  have h4 := cnt_two (n := s) huv h1 h2 hf
  rw [if_pos (by omega), if_pos hv] at h4
  have h5 := cnt_cov hs hd2
  omega
theorem many_more {s : Nat} (hs : 1 ≤ s) : ∀ (d : Nat) {x : Nat → Bool}, DisB x s → 2 * (cnt x s + d) ≤ s → ∃ y, DisB y s ∧ cnt y s = cnt x s + d ∧ ∀ k, k < s → covB x s k = true → covB y s k = true
  | 0, x, hd, _ => ⟨x, hd, rfl, fun _ _ h => h⟩
  | d + 1, x, hd, h => by
    obtain ⟨y, h1, h2, h3⟩ := one_more hs hd (by omega)
    obtain ⟨z, g1, g2, g3⟩ := many_more hs d h1 (by omega)
    exact ⟨z, g1, by omega, fun k hk hc => g3 k hk (h3 k hk hc)⟩
/-- The told gaps as marks. -/
def newB (s : Nat) (zs : List Int) (k : Nat) : Bool := hasI (newU s zs) k
theorem newB_cnt {s : Nat} {zs : List Int} : cnt (newB s zs) s ≤ (newU s zs).length := by
  rw [cnt_filter]
  have := nodup_len (us := ((List.range s).filter (newB s zs)).map fun k : Nat => (k : Int)) (vs := newU s zs) ?_ ?_
  · simpa using this
  · rw [List.Nodup, List.pairwise_map]
    exact ((List.nodup_range).filter _).imp fun h e => h (by omega)
  · intro x hx
    obtain ⟨k, hk, rfl⟩ := List.mem_map.1 hx
    exact hasI_iff.1 (List.mem_filter.1 hk).2
theorem pred_nat {s k : Nat} (hk : k < s) : ((k : Int) + s - 1) % s = ((if k = 0 then s - 1 else k - 1 : Nat) : Int) := by
  split
  · subst k
    rw [Int.emod_eq_of_lt (by omega) (by omega)]; omega
  · rw [show (k : Int) + s - 1 = ((k - 1 : Nat) : Int) + s by omega, Int.add_emod_right, Int.emod_eq_of_lt (by omega) (by omega)]
theorem newB_cov {s : Nat} {zs : List Int} (h : Ris s zs) (hs : 1 ≤ s) {k : Nat} (hk : k < s) (hz : hasI zs k = true) : covB (newB s zs) s k = true := by
  have h1 := newU_cov h hs (hasI_iff.1 hz)
  rw [pred_nat hk] at h1
  unfold covB pvB newB
  rcases h1 with h1 | h1
  · rw [hasI_iff.2 h1]; rfl
  · by_cases e : k = 0
    · rw [if_pos e] at h1 ⊢
      rw [hasI_iff.2 h1]; simp
    · rw [if_neg e] at h1 ⊢
      rw [hasI_iff.2 h1]; simp
theorem newB_dis {s : Nat} {zs : List Int} (h : Ris s zs) (hs : 1 ≤ s) (hl : zs.length < s) : DisB (newB s zs) s := by
  intro k hk ⟨h1, h2⟩
  unfold newB at h1
  have h2' : hasI (newU s zs) ((if k = 0 then s - 1 else k - 1 : Nat) : Int) = true := by
    unfold pvB newB at h2
    by_cases e : k = 0
    · rw [if_pos e] at h2 ⊢; exact h2
    · rw [if_neg e] at h2 ⊢; exact h2
  refine newU_apart h hs hl (hasI_iff.1 h2') (hasI_iff.1 h1) ?_
  rw [← pred_nat hk]
  exact pred_mod hs (by omega) (by omega)
theorem newU_full_len {s : Nat} {zs : List Int} (h : Ris s zs) (hs : 1 ≤ s) (hl : zs.length = s) : (newU s zs).length = (s + 1) / 2 := by
  unfold newU
  rw [partsL_full h hs hl]
  simp [gapsOf]
theorem even_cov (s k : Nat) (hk : k < s) : covB (fun j => decide (j % 2 = 0)) s k = true := by
  unfold covB pvB
  rcases Nat.mod_two_eq_zero_or_one k with e | e
  · simp [e]
  · rw [if_neg (by omega)]
    simp [e]; omega
theorem even_cnt : ∀ n, cnt (fun j => decide (j % 2 = 0)) n = (n + 1) / 2
  | 0 => rfl
  | n + 1 => by
    unfold cnt
    rw [even_cnt n]
    rcases Nat.mod_two_eq_zero_or_one n with e | e
    · simp [e]; omega
    · simp [e]; omega
/-- So many gaps, where the fewest are not more, can close as many stakes as may be. -/
theorem best_is {s g : Nat} {zs : List Int} (h : Ris s zs) (hs : 1 ≤ s) (hg : (newU s zs).length ≤ g) : ∃ x : Nat → Bool, cnt x s ≤ g ∧ (∀ k, k < s → hasI zs k = true → covB x s k = true) ∧ cnt (covB x s) s = min s (2 * g) := by
  rcases Nat.lt_or_ge (2 * g) s with h1 | h1
  · have hl : zs.length < s := by
      rcases Nat.lt_or_ge zs.length s with h2 | h2
      · exact h2
      · have := newU_full_len h hs (by have := h.len; omega)
        omega
    have hd := newB_dis h hs hl
    have hc := newB_cnt (s := s) (zs := zs)
    obtain ⟨y, a1, a2, a3⟩ := many_more hs (g - cnt (newB s zs) s) hd (by omega)
    refine ⟨y, by omega, fun k hk hz => a3 k hk (newB_cov h hs hk hz), ?_⟩
    rw [cnt_cov hs a1]
    omega
  · refine ⟨fun j => decide (j % 2 = 0), by rw [even_cnt]; omega, fun k hk _ => even_cov s k hk, ?_⟩
    rw [cnt_all (fun k hk => even_cov s k hk)]
    omega
/-- What marks on the first k gaps come to: so many gaps, the last one's mark, so many closed stakes. -/
inductive Reach (brk : Nat → Bool) (last : Bool) : Nat → Nat → Bool → Nat → Prop
  | start : Reach brk last 0 0 last 0
  | off {k g c : Nat} {a : Bool} : Reach brk last k g a c → (brk k = true → a = true) → Reach brk last (k + 1) g false (c + a.toNat)
  | on {k g c : Nat} {a : Bool} : Reach brk last k g a c → Reach brk last (k + 1) (g + 1) true (c + 1)
theorem reach_of {brk : Nat → Bool} {x : Nat → Bool} {s : Nat} (hv : ∀ k, k < s → brk k = true → covB x s k = true) : ∀ k, k ≤ s → Reach brk (x (s - 1)) k (cnt x k) (pvB x s k) (cnt (covB x s) k)
  | 0, _ => by unfold pvB; exact .start
  | k + 1, hk => by
    have ih := reach_of hv k (by omega)
    rw [pvB_succ]
    rw [show cnt x (k + 1) = cnt x k + (x k).toNat from rfl, show cnt (covB x s) (k + 1) = cnt (covB x s) k + (covB x s k).toNat from rfl]
    have hk2 := hv k (by omega)
    unfold covB at hk2 ⊢
    cases hx : x k
    · rw [hx] at hk2
      exact .off ih (fun hb => by simpa using hk2 hb)
    · exact .on ih
theorem reach_bd {brk : Nat → Bool} {last : Bool} {k g c : Nat} {a : Bool} (h : Reach brk last k g a c) : c ≤ k ∧ c + a.toNat ≤ 2 * g + last.toNat ∧ g ≤ k := by
  induction h with
  | start => simp
  | @off k g c a h hb ih =>
    cases a
    · simp at ih ⊢; omega
    · simp at ih ⊢; omega
  | @on k g c a h ih => cases a <;> simp at ih ⊢ <;> omega
theorem reach_gaps {brk : Nat → Bool} {last : Bool} {k g c : Nat} {a : Bool} (h : Reach brk last k g a c) : ∃ gs : List Int, gs.length = g ∧ (∀ z : Nat, z < k → brk z = true → (z : Int) ∈ gs ∨ (1 ≤ z ∧ (z : Int) - 1 ∈ gs) ∨ (z = 0 ∧ last = true)) ∧ (a = true → (k = 0 ∧ last = true) ∨ (1 ≤ k ∧ (k : Int) - 1 ∈ gs)) := by
  induction h with
  | start => exact ⟨[], rfl, fun z hz => by omega, fun e => .inl ⟨rfl, e⟩⟩
  | @off k g c a h hb ih =>
    obtain ⟨gs, h1, h2, h3⟩ := ih
    refine ⟨gs, h1, fun z hz hbz => ?_, fun e => by cases e⟩
    rcases Nat.lt_succ_iff_lt_or_eq.1 hz with h4 | rfl
    · exact h2 z h4 hbz
    · rcases h3 (hb hbz) with ⟨h5, h6⟩ | ⟨h5, h6⟩
      · exact .inr (.inr ⟨h5, h6⟩)
      · exact .inr (.inl ⟨h5, h6⟩)
  | @on k g c a h ih =>
    obtain ⟨gs, h1, h2, h3⟩ := ih
    refine ⟨(k : Int) :: gs, by simp [h1], fun z hz hbz => ?_, fun _ => .inr ⟨by omega, by simp⟩⟩
    rcases Nat.lt_succ_iff_lt_or_eq.1 hz with h4 | rfl
    · rcases h2 z h4 hbz with h5 | ⟨h5, h6⟩ | h5
      · exact .inl (List.mem_cons_of_mem _ h5)
      · exact .inr (.inl ⟨h5, List.mem_cons_of_mem _ h6⟩)
      · exact .inr (.inr h5)
    · exact .inl (List.mem_cons_self ..)
/-- Marks that close all broken stakes are not fewer than the fewest. -/
theorem reach_least {s g c : Nat} {zs : List Int} {last : Bool} (h : Ris s zs) (hs : 1 ≤ s) (hr : Reach (fun k => hasI zs k) last s g last c) : (newU s zs).length ≤ g := by
  obtain ⟨gs, h1, h2, h3⟩ := reach_gaps hr
  rw [← h1]
  refine newU_least h hs fun z hz => ?_
  obtain ⟨z0, z1⟩ := h.rng z hz
  obtain ⟨k, rfl⟩ := Int.eq_ofNat_of_zero_le z0
  have hk : k < s := by omega
  rw [pred_nat hk]
  rcases h2 k hk (hasI_iff.2 hz) with h4 | ⟨h4, h5⟩ | ⟨h4, h5⟩
  · exact .inl h4
  · right
    rw [if_neg (by omega), show ((k - 1 : Nat) : Int) = (k : Int) - 1 by omega]; exact h5
  · right
    rw [if_pos h4]
    rcases h3 h5 with ⟨h6, _⟩ | ⟨_, h6⟩
    · omega
    · rw [show ((s - 1 : Nat) : Int) = (s : Int) - 1 by omega]; exact h6

/-- The table behind k stakes. -/
def tabS (brk : Nat → Bool) (k : Nat) (T : Nat → Bool → Int) (g : Nat) (a : Bool) : Int :=
  match a with
  | false => max (if 0 ≤ T g false ∧ brk k = false then max (-1) (T g false) else -1) (if 0 ≤ T g true then T g true + 1 else -1)
  | true => match g with
    | 0 => -1
    | g + 1 => max (if 0 ≤ T g false then max (-1) (T g false + 1) else -1) (if 0 ≤ T g true then T g true + 1 else -1)
def tab0 (last : Bool) (g : Nat) (a : Bool) : Int := if g = 0 ∧ a = last then 0 else -1
def tabK (brk : Nat → Bool) (last : Bool) : Nat → Nat → Bool → Int
  | 0 => tab0 last
  | k + 1 => tabS brk k (tabK brk last k)
def Good (brk : Nat → Bool) (last : Bool) (k : Nat) (T : Nat → Bool → Int) : Prop :=
  ∀ g a, -1 ≤ T g a ∧ (0 ≤ T g a → ∃ c : Nat, T g a = c ∧ Reach brk last k g a c) ∧ ∀ c : Nat, Reach brk last k g a c → (c : Int) ≤ T g a
theorem good_0 (brk : Nat → Bool) (last : Bool) : Good brk last 0 (tab0 last) := by
  intro g a
  unfold tab0
  by_cases h : g = 0 ∧ a = last
  · rw [if_pos h]
    obtain ⟨rfl, rfl⟩ := h
    exact ⟨by omega, fun _ => ⟨0, rfl, .start⟩, fun c hc => by cases hc; omega⟩
  · rw [if_neg h]
    exact ⟨by omega, fun h => by omega, fun c hc => by cases hc; exact absurd ⟨rfl, rfl⟩ h⟩
theorem good_succ {brk : Nat → Bool} {last : Bool} {k : Nat} {T : Nat → Bool → Int} (h : Good brk last k T) : Good brk last (k + 1) (tabS brk k T) := by
  intro g a
  cases a
  · obtain ⟨a1, a2, a3⟩ := h g false
    obtain ⟨b1, b2, b3⟩ := h g true
    have key : ∀ c : Nat, Reach brk last (k + 1) g false c → (c : Int) ≤ tabS brk k T g false := by
      intro c hc
      unfold tabS
      cases hc with
      | @off _ _ c a hr hb =>
        cases a
        · have := a3 c hr
          have hbk : brk k = false := by cases e : brk k; rfl; exact absurd (hb e) (by simp)
          rw [if_pos ⟨by omega, hbk⟩]
          simp; omega
        · have := b3 c hr
          rw [if_pos (show 0 ≤ T g true by omega)]
          simp; omega
    refine ⟨?_, ?_, key⟩
    · unfold tabS; simp only; split <;> split <;> omega
    · unfold tabS
      simp only
      intro hp
      by_cases h1 : 0 ≤ T g true ∧ T g false ≤ T g true + 1
      · rw [if_pos h1.1]
        obtain ⟨c, e, hr⟩ := b2 h1.1
        refine ⟨c + 1, ?_, by simpa using Reach.off hr (fun _ => rfl)⟩
        split <;> omega
      · by_cases h2 : 0 ≤ T g false ∧ brk k = false
        · rw [if_pos h2]
          obtain ⟨c, e, hr⟩ := a2 h2.1
          refine ⟨c, ?_, by simpa using Reach.off hr (fun e => by rw [h2.2] at e; cases e)⟩
          split <;> omega
        · rw [if_neg h2] at hp ⊢
          by_cases h3 : 0 ≤ T g true
          · rw [if_pos h3] at hp ⊢
            obtain ⟨c, e, hr⟩ := b2 h3
            exact ⟨c + 1, by omega, by simpa using Reach.off hr (fun _ => rfl)⟩
          · rw [if_neg h3] at hp; omega
  · cases g with
    | zero =>
      refine ⟨by show (-1 : Int) ≤ -1; omega, fun hp => by have hp : (0 : Int) ≤ -1 := hp; omega, fun c hc => ?_⟩
      cases hc
    | succ g =>
      obtain ⟨a1, a2, a3⟩ := h g false
      obtain ⟨b1, b2, b3⟩ := h g true
      refine ⟨?_, ?_, ?_⟩
      · unfold tabS; simp only; split <;> split <;> omega
      · unfold tabS
        simp only
        intro hp
        by_cases h1 : 0 ≤ T g true ∧ T g false ≤ T g true
        · rw [if_pos h1.1]
          obtain ⟨c, e, hr⟩ := b2 h1.1
          refine ⟨c + 1, ?_, Reach.on hr⟩
          split <;> omega
        · by_cases h2 : 0 ≤ T g false
          · rw [if_pos h2]
            obtain ⟨c, e, hr⟩ := a2 h2
            refine ⟨c + 1, ?_, Reach.on hr⟩
            split <;> omega
          · rw [if_neg h2] at hp ⊢
            by_cases h3 : 0 ≤ T g true
            · omega
            · rw [if_neg h3] at hp; omega
      · intro c hc
        unfold tabS
        simp only
        cases hc with
        | @on _ _ c a hr =>
          cases a
          · have := a3 c hr
            rw [if_pos (show 0 ≤ T g false by omega)]; split <;> omega
          · have := b3 c hr
            rw [if_pos (show 0 ≤ T g true by omega)]; split <;> omega
theorem good_K (brk : Nat → Bool) (last : Bool) : ∀ k, Good brk last k (tabK brk last k)
  | 0 => good_0 brk last
  | k + 1 => good_succ (good_K brk last k)
/-- The greatest of the first n rows. -/
def topM (T : Nat → Int) : Nat → Int
  | 0 => -1
  | n + 1 => max (topM T n) (T n)
theorem topM_ge {T : Nat → Int} : ∀ {n g : Nat}, g < n → T g ≤ topM T n
  | 0, g, h => by omega
  | n + 1, g, h => by
    unfold topM
    rcases Nat.lt_succ_iff_lt_or_eq.1 h with h1 | rfl
    · have := topM_ge (T := T) h1; omega
    · omega
theorem topM_is {T : Nat → Int} : ∀ {n : Nat}, 0 ≤ topM T n → ∃ g, g < n ∧ T g = topM T n
  | 0, h => by unfold topM at h; omega
  | n + 1, h => by
    unfold topM at h ⊢
    by_cases h1 : topM T n ≤ T n
    · exact ⟨n, by omega, by omega⟩
    · obtain ⟨g, hg, e⟩ := topM_is (T := T) (n := n) (by omega)
      exact ⟨g, by omega, by omega⟩
theorem topM_lo (T : Nat → Int) : ∀ n, -1 ≤ topM T n
  | 0 => by simp [topM]
  | n + 1 => by have := topM_lo T n; unfold topM; omega
def mostK (s : Nat) (zs : List Int) (g : Nat) (last : Bool) : Int := topM (fun j => tabK (fun k => hasI zs k) last s j last) (min g s + 1)
theorem mostK_bd (s : Nat) (zs : List Int) (g : Nat) (last : Bool) : -1 ≤ mostK s zs g last ∧ mostK s zs g last ≤ s := by
  refine ⟨topM_lo _ _, ?_⟩
  rcases Int.lt_or_le (mostK s zs g last) 0 with h | h
  · omega
  · obtain ⟨j, hj, e⟩ := topM_is (T := fun j => tabK (fun k => hasI zs k) last s j last) h
    obtain ⟨_, h2, _⟩ := good_K (fun k => hasI zs k) last s j last
    have e' : tabK (fun k => hasI zs k) last s j last = mostK s zs g last := e
    obtain ⟨c, e2, hr⟩ := h2 (by omega)
    have := (reach_bd hr).1
    omega
/-- The formula and the table tell the same. -/
theorem most_is {s g : Nat} {zs : List Int} (h : Ris s zs) (hs : 1 ≤ s) : max (mostK s zs g false) (mostK s zs g true) = if (newU s zs).length ≤ g then ((min s (2 * g) : Nat) : Int) else -1 := by
  have up : ∀ last, mostK s zs g last = -1 ∨ ((newU s zs).length ≤ g ∧ mostK s zs g last ≤ ((min s (2 * g) : Nat) : Int)) := by
    intro last
    have h0 := (mostK_bd s zs g last).1
    rcases Int.lt_or_le (mostK s zs g last) 0 with h1 | h1
    · left; omega
    · right
      obtain ⟨j, hj, e⟩ := topM_is (T := fun j => tabK (fun k => hasI zs k) last s j last) h1
      obtain ⟨_, h2, _⟩ := good_K (fun k => hasI zs k) last s j last
      have e' : tabK (fun k => hasI zs k) last s j last = mostK s zs g last := e
      obtain ⟨c, e2, hr⟩ := h2 (by omega)
      have hb := reach_bd hr
      have hl := reach_least h hs hr
      refine ⟨by omega, ?_⟩
      omega
  by_cases hg : (newU s zs).length ≤ g
  · rw [if_pos hg]
    obtain ⟨x, h1, h2, h3⟩ := best_is h hs hg
    have hr := reach_of (brk := fun k => hasI zs k) (x := x) h2 s (Nat.le_refl _)
    have e0 : pvB x s s = x (s - 1) := by unfold pvB; rw [if_neg (by omega)]
    rw [e0, h3] at hr
    have hc := cnt_le x s
    have h4 := (good_K (fun k => hasI zs k) (x (s - 1)) s (cnt x s) (x (s - 1))).2.2 _ hr
    have h5 := topM_ge (T := fun j => tabK (fun k => hasI zs k) (x (s - 1)) s j (x (s - 1))) (n := min g s + 1) (g := cnt x s) (by omega)
    have h6 : ((min s (2 * g) : Nat) : Int) ≤ mostK s zs g (x (s - 1)) := Int.le_trans h4 h5
    have u1 := up false
    have u2 := up true
    cases hx : x (s - 1) <;> rw [hx] at h6 <;> omega
  · rw [if_neg hg]
    have u1 := up false
    have u2 := up true
    omega
end Go.Proofs.Ytniifpfhfpcmcaa
