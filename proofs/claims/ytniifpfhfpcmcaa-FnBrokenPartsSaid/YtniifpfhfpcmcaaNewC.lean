/- Plain facts: the fewest new stakes cover all broken ones, and fewer do not. -/
import Derived.Test.YtniifpfhfpcmcaaNewM
namespace Go.Proofs.Ytniifpfhfpcmcaa
open Go.RowKit
set_option linter.unusedVariables false
set_option linter.unusedSimpArgs false

theorem nodup_len : ∀ {us vs : List Int}, us.Nodup → (∀ x ∈ us, x ∈ vs) → us.length ≤ vs.length
  | [], _, _, _ => by simp
  | u :: us, vs, hn, hs => by
    rw [List.nodup_cons] at hn
    have hu := hs u (List.mem_cons_self ..)
    have h1 := nodup_len (us := us) (vs := vs.erase u) hn.2 (fun x hx => (List.mem_erase_of_ne (fun (e : x = u) => hn.1 (by rw [← e]; exact hx))).2 (hs x (List.mem_cons_of_mem _ hx)))
    rw [List.length_erase_of_mem hu] at h1
    have := List.length_pos_of_mem hu
    simp only [List.length_cons]
    omega
/-- The gap g closes stake z. -/
def cov (s : Nat) (gs : List Int) (z : Int) : Bool := hasI gs z || hasI gs ((z + s - 1) % s)
theorem cov_iff {s : Nat} {gs : List Int} {z : Int} : cov s gs z = true ↔ z ∈ gs ∨ (z + s - 1) % s ∈ gs := by
  unfold cov; rw [Bool.or_eq_true, hasI_iff, hasI_iff]
theorem uncB_cov {s : Nat} {gs : List Int} {z : Int} : uncB s gs z = !cov s gs z := by unfold uncB cov; rw [Bool.not_or]
theorem pred_mod {s : Nat} (hs : 1 ≤ s) {z : Int} (z0 : 0 ≤ z) (z1 : z < s) : ((z + s - 1) % s + 1) % s = z := by
  rw [Int.emod_add_emod, show z + (s : Int) - 1 + 1 = z + s by omega, Int.add_emod_right]
  exact Int.emod_eq_of_lt z0 z1
theorem succ_mod {s : Nat} (hs : 1 ≤ s) {z : Int} (z0 : 0 ≤ z) (z1 : z < s) : ((z + 1) % s + s - 1) % s = z := by
  have := at_succ (s := s) hs (f := z) 0
  rw [at_zero z0 z1] at this
  unfold at_ at this
  simpa using this
/-- Every broken stake lies in a part. -/
theorem in_part {s : Nat} {zs : List Int} (h : Ris s zs) (hs : 1 ≤ s) {z : Int} (hz : z ∈ zs) : ∃ f ∈ zs, startB s zs f = true ∧ ∃ i : Nat, i < runLen s zs f ∧ at_ s f i = z := by
  obtain ⟨z0, z1⟩ := h.rng z hz
  rcases Nat.lt_or_ge zs.length s with hl | hl
  · -- go back to the first broken one
    have key : ∀ n : Nat, ∀ f : Int, f ∈ zs → ∀ i : Nat, i + n = s → at_ s f i = z → (∀ j : Nat, j ≤ i → hasI zs (at_ s f j) = true) → ∃ f ∈ zs, startB s zs f = true ∧ ∃ i : Nat, i < runLen s zs f ∧ at_ s f i = z := by
      intro n
      induction n with
      | zero =>
        intro f hf i hi he hall
        exfalso
        obtain ⟨f0, f1⟩ := h.rng f hf
        obtain ⟨m, hm, hmf⟩ := run_ends h hs hl f0 f1
        rw [hall m (by omega)] at hmf
        cases hmf
      | succ n ih =>
        intro f hf i hi he hall
        obtain ⟨f0, f1⟩ := h.rng f hf
        cases hp : hasI zs ((f + s - 1) % s)
        · have hr := runLen_is hs zs f
          refine ⟨f, hf, by unfold startB; rw [hp]; rfl, i, ?_, he⟩
          rcases Nat.lt_or_ge i (runLen s zs f) with h1 | h1
          · exact h1
          · exfalso
            rcases hr.stop with e | e
            · omega
            · rw [hall _ h1] at e; cases e
        · have hp' := hasI_iff.1 hp
          have e1 : at_ s ((f + s - 1) % s) 1 = f := by unfold at_; exact pred_mod hs f0 f1
          refine ih _ hp' (i + 1) (by omega) ?_ fun j hj => ?_
          · rw [show i + 1 = 1 + i by omega, ← at_add, e1]; exact he
          · rcases Nat.eq_zero_or_pos j with rfl | hj0
            · rw [at_zero (mod_rng hs _).1 (mod_rng hs _).2]; exact hp
            · rw [show j = 1 + (j - 1) by omega, ← at_add, e1]; exact hall (j - 1) (by omega)
    exact key s z hz 0 (by omega) (at_zero z0 z1) fun j hj => by
      obtain rfl : j = 0 := by omega
      rw [at_zero z0 z1]; exact hasI_iff.2 hz
  · have hl' : zs.length = s := by have := h.len; omega
    have h0 : (0 : Int) ∈ zs := hasI_iff.1 (h.fullHas hl' (Int.le_refl _) (by omega))
    have hrun : runLen s zs 0 = s := runLen_eq ⟨hs, Nat.le_refl _, fun j _ _ => by obtain ⟨a, b⟩ := mod_rng hs ((0 : Int) + j); exact h.fullHas hl' a b, .inl rfl⟩
    refine ⟨0, h0, by unfold startB; rw [hl']; simp, z.toNat, by omega, ?_⟩
    unfold at_
    rw [Int.zero_add, Int.toNat_of_nonneg z0]
    exact Int.emod_eq_of_lt z0 z1
theorem gap_mem {s : Nat} {zs : List Int} {f : Int} (hf : f ∈ zs) (hst : startB s zs f = true) {j : Nat} (hj : 2 * j < runLen s zs f) : at_ s f (2 * j) ∈ newU s zs := by
  unfold newU
  refine List.mem_flatMap.2 ⟨(f, (runLen s zs f : Int)), ?_, ?_⟩
  · unfold partsL
    exact List.mem_map.2 ⟨f, List.mem_filter.2 ⟨hf, hst⟩, rfl⟩
  · unfold gapsOf
    refine List.mem_map.2 ⟨j, List.mem_range.2 ?_, ?_⟩
    · simp only [Int.toNat_natCast]; omega
    · unfold at_; simp
/-- The told gaps close all broken stakes. -/
theorem newU_cov {s : Nat} {zs : List Int} (h : Ris s zs) (hs : 1 ≤ s) {z : Int} (hz : z ∈ zs) : z ∈ newU s zs ∨ (z + s - 1) % s ∈ newU s zs := by
  obtain ⟨f, hf, hst, i, hi, rfl⟩ := in_part h hs hz
  rcases Nat.mod_two_eq_zero_or_one i with e | e
  · left
    obtain ⟨j, rfl⟩ : ∃ j, i = 2 * j := ⟨i / 2, by omega⟩
    exact gap_mem hf hst hi
  · right
    obtain ⟨j, rfl⟩ : ∃ j, i = 2 * j + 1 := ⟨i / 2, by omega⟩
    rw [at_succ hs]
    exact gap_mem hf hst (by omega)
theorem newU_sub {s : Nat} {zs : List Int} (h : Ris s zs) (hs : 1 ≤ s) {z : Int} (hz : z ∈ newU s zs) : ∃ f ∈ zs, startB s zs f = true ∧ ∃ j : Nat, 2 * j < runLen s zs f ∧ at_ s f (2 * j) = z := by
  unfold newU at hz
  obtain ⟨p, hp, hx⟩ := List.mem_flatMap.1 hz
  obtain ⟨a1, a2, a3⟩ := mem_parts hp
  obtain ⟨j, hj, rfl⟩ := mem_gaps hx
  rw [a3, Int.toNat_natCast] at hj
  exact ⟨_, a1, a2, j, hj, rfl⟩
theorem run_mem {s : Nat} {zs : List Int} (h : Ris s zs) (hs : 1 ≤ s) {f : Int} (hf : f ∈ zs) {i : Nat} (hi : i < runLen s zs f) : at_ s f i ∈ zs := by
  obtain ⟨f0, f1⟩ := h.rng f hf
  rcases Nat.eq_zero_or_pos i with rfl | h0
  · rw [at_zero f0 f1]; exact hf
  · exact hasI_iff.1 ((runLen_is hs zs f).all i hi h0)
theorem newU_le {s : Nat} {zs : List Int} (h : Ris s zs) (hs : 1 ≤ s) : (newU s zs).length ≤ zs.length :=
  nodup_len (newU_nodup h hs) fun x hx => by
    obtain ⟨f, hf, _, j, hj, rfl⟩ := newU_sub h hs hx
    exact run_mem h hs hf hj
/-- What covers rising numbers is at least half as many. -/
theorem cov_half {s : Nat} {zs gs : List Int} (h : Ris s zs) (hs : 1 ≤ s) (hc : ∀ z ∈ zs, z ∈ gs ∨ (z + s - 1) % s ∈ gs) : zs.length ≤ 2 * gs.length := by
  have hn : zs.Nodup := h.pw.imp (fun h => by omega)
  have := nodup_len (vs := gs ++ gs.map fun g : Int => (g + 1) % (s : Int)) hn fun z hz => by
    obtain ⟨z0, z1⟩ := h.rng z hz
    rcases hc z hz with h1 | h1
    · exact List.mem_append_left _ h1
    · exact List.mem_append_right _ (List.mem_map.2 ⟨_, h1, pred_mod hs z0 z1⟩)
  rw [List.length_append, List.length_map] at this
  omega
theorem newU_half {s : Nat} {zs : List Int} (h : Ris s zs) (hs : 1 ≤ s) : zs.length ≤ 2 * (newU s zs).length := cov_half h hs fun z hz => newU_cov h hs hz
/-- Two told gaps are never neighbours, where not all are broken. -/
theorem newU_apart {s : Nat} {zs : List Int} (h : Ris s zs) (hs : 1 ≤ s) (hl : zs.length < s) {u v : Int} (hu : u ∈ newU s zs) (hv : v ∈ newU s zs) (e : (u + 1) % s = v) : False := by
  obtain ⟨f, hf, hsf, i, hi, rfl⟩ := newU_sub h hs hu
  obtain ⟨g, hg, hsg, j, hj, rfl⟩ := newU_sub h hs hv
  have e2 : at_ s f (2 * i + 1) = at_ s g (2 * j) := by
    rw [← e]; unfold at_; rw [Int.emod_add_emod]; congr 1; omega
  have hr := runLen_is hs zs f
  rcases Nat.lt_or_ge (2 * i + 1) (runLen s zs f) with h1 | h1
  · have := runs_meet h hs hf hsf hg hsg h1 hj e2
    subst this
    have := at_inj (by have := hr.hi; omega) (by have := hr.hi; omega) e2
    omega
  · have h2 : runLen s zs f = 2 * i + 1 := by omega
    rcases hr.stop with e3 | e3
    · -- the run goes all the way round
      obtain ⟨f0, f1⟩ := h.rng f hf
      obtain ⟨m, hm, hmf⟩ := run_ends h hs hl f0 f1
      have : at_ s f m ∈ zs := run_mem h hs hf (by omega)
      rw [hasI_iff.2 this] at hmf
      cases hmf
    · rw [h2, e2, hasI_iff.2 (run_mem h hs hg hj)] at e3
      cases e3
/-- No fewer gaps close all broken stakes. -/
theorem newU_least {s : Nat} {zs gs : List Int} (h : Ris s zs) (hs : 1 ≤ s) (hc : ∀ z ∈ zs, z ∈ gs ∨ (z + s - 1) % s ∈ gs) : (newU s zs).length ≤ gs.length := by
  rcases Nat.lt_or_ge zs.length s with hl | hl
  · let φ : Int → Int := fun u => if hasI gs u then u else (u + s - 1) % s
    have hφ : ∀ u ∈ newU s zs, φ u ∈ gs := fun u hu => by
      obtain ⟨f, hf, _, j, hj, e⟩ := newU_sub h hs hu
      have hz : u ∈ zs := e ▸ run_mem h hs hf hj
      show (if hasI gs u then u else (u + s - 1) % s) ∈ gs
      cases hg : hasI gs u
      · rw [if_neg (by simp)]
        rcases hc u hz with h1 | h1
        · rw [hasI_iff.2 h1] at hg; cases hg
        · exact h1
      · rw [if_pos rfl]; exact hasI_iff.1 hg
    have hn : ((newU s zs).map φ).Nodup := by
      rw [List.Nodup, List.pairwise_map]
      refine List.Pairwise.imp_of_mem ?_ (newU_nodup h hs)
      intro u v hu hv hne e
      obtain ⟨u0, u1⟩ := newU_rng hs hu
      obtain ⟨v0, v1⟩ := newU_rng hs hv
      have e' : (if hasI gs u then u else (u + s - 1) % s) = (if hasI gs v then v else (v + s - 1) % s) := e
      cases hg : hasI gs u <;> cases hg2 : hasI gs v <;> rw [hg, hg2] at e' <;> simp only [Bool.false_eq_true, if_false, if_true] at e'
      · have := congrArg (fun x => (x + 1) % (s : Int)) e'
        simp only [pred_mod hs u0 u1, pred_mod hs v0 v1] at this
        exact hne this
      · exact newU_apart h hs hl hv hu (by rw [← e']; exact pred_mod hs u0 u1)
      · exact newU_apart h hs hl hu hv (by rw [e']; exact pred_mod hs v0 v1)
      · exact hne e'
    have := nodup_len (vs := gs) hn fun x hx => by
      obtain ⟨u, hu, rfl⟩ := List.mem_map.1 hx
      exact hφ u hu
    simpa using this
  · have hl' : zs.length = s := by have := h.len; omega
    have h1 := cov_half h hs hc
    have h2 : (newU s zs).length = (s + 1) / 2 := by
      unfold newU
      rw [partsL_full h hs hl']
      simp [gapsOf]
    omega
theorem newL_len {s : Nat} {zs : List Int} : (newL s zs).length = (newU s zs).length := by unfold newL; rw [List.length_mergeSort]
theorem newL_mem {s : Nat} {zs : List Int} {x : Int} : x ∈ newL s zs ↔ x ∈ newU s zs := (List.mergeSort_perm _ _).mem_iff
end Go.Proofs.Ytniifpfhfpcmcaa
