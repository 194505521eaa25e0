/- Plain facts of FnPacking. -/
import Derived.Test.YtkkipkmjhakknaaPkO
import Derived.Test.YtkkipkmjhakknaaPackV
import Derived.Test.YtkkipkmjhakknaaWitho3
namespace Go.Proofs.Ytkkipkmjhakknaa
open Go.RowKit
set_option linter.unusedVariables false
set_option linter.unusedSimpArgs false

theorem Bytes.up {w : World} {base base' : Nat} {A : Option Addr} {n : Nat} (h : Bytes w base A n) (hb : base ≤ base') : Bytes w base' A n :=
  ⟨h.1, fun hn => by
    obtain ⟨b, off, e, hlt, hc⟩ := h.2 hn
    exact ⟨b, off, e, by omega, hc⟩⟩
theorem own_cap {w : World} {base : Nat} {C : Option Addr} {q c : Nat} {zs : List Int} (h : OwnI w base (.slice C q c) q zs) : q ≤ c ∧ c ≤ 9223372036854775807 := by
  rcases h.2 with ⟨e, h0⟩ | ⟨g, cap, cur, hv, hg, _, h1, h2, _⟩
  · injection e with e1 e2 e3
    omega
  · injection hv with e1 e2 e3
    subst e3
    unfold maxLen at h2
    omega
theorem allIn_of {zs : List Int} {lo hi : Int} (h : ∀ z ∈ zs, lo ≤ z ∧ z ≤ hi) : allIn zs lo hi = true := by
  unfold allIn
  rw [List.all_eq_true]
  exact fun z hz => (inB_iff _ _ _).2 (h z hz)
theorem plc_range (n : Nat) : ∀ m, n ≤ m → Plc m ((List.range n).map fun j : Nat => (j : Int)) := fun m hm => by
  refine ⟨?_, fun u hu => ?_⟩
  · rw [List.nodup_iff_pairwise_ne, List.pairwise_map]
    exact List.Pairwise.imp (fun {a b} h e => h (by omega)) (List.nodup_iff_pairwise_ne.1 List.nodup_range)
  · obtain ⟨j, hj, rfl⟩ := List.mem_map.1 hu
    have := List.mem_range.1 hj
    omega
theorem plc_take {n k : Nat} {us : List Int} (h : Plc n us) : Plc n (us.take k) :=
  ⟨h.1.sublist (List.take_sublist _ _), fun u hu => h.2 u (List.mem_of_mem_take hu)⟩
/-- What PackLevel tells of drawn weights and places. -/
theorem pack_facts {ws ps : List Int} {z : Int} (h1 : ws.length ≤ 6) (h2 : ps.length ≤ 6) (hw : ∀ x ∈ ws, 50 ≤ x ∧ x ≤ 1000) (hp : ∀ x ∈ ps, 0 ≤ x ∧ x ≤ 40) (hle : ws.length ≤ ps.length) (z0 : 0 ≤ z) (z1 : z ≤ 1000) :
    ∃ us lv, packV ws ps z = (us, lv, 0) ∧ Plc ps.length us ∧ us.length = ws.length ∧ absI (momP ws ps z us) = lv ∧ 0 ≤ lv ∧ ∀ ext, Plc ps.length ext → ext.length = ws.length → lv ≤ absI (momP ws ps z ext) := by
  have hok : packOk ws ps z = true := packOk_parts h1 h2 (allIn_of fun x hx => by have := hw x hx; omega) (allIn_of fun x hx => by have := hp x hx; omega) ((inB_iff _ _ _).2 ⟨z0, z1⟩)
  have hV := packV_all hok (by omega)
  have ht := packF_told ws ps z ws.length [] ([], -1) (by simp) (Plc.nil _) (.inl ⟨rfl, rfl⟩)
  have e0 : momP ws ps z [] = 0 := by simp [momP]
  have hl : ∀ ext : List Int, Plc ps.length ext → ext.length = ws.length → 0 ≤ (packF ws ps z ws.length [] 0 ([], -1)).2 ∧ (packF ws ps z ws.length [] 0 ([], -1)).2 ≤ absI (momP ws ps z ext) := fun ext hP hlen => by
    have := packF_least ws ps z ws.length [] ext ([], -1) hlen (by simpa using hP)
    rw [e0, List.nil_append] at this
    exact this
  rw [e0] at ht
  have h0 := (hl _ (plc_range ws.length ps.length hle) (by simp)).1
  refine ⟨_, _, hV, ?_⟩
  rcases ht with ⟨_, e⟩ | ⟨a, b, e⟩
  · omega
  · exact ⟨a, b, e.symm, h0, fun ext hP hlen => (hl ext hP hlen).2⟩
theorem bst_least (f : Nat → Nat) : ∀ n j : Nat, j < n → f (bst f n) ≤ f j
  | 0, j, h => absurd h (by omega)
  | n + 1, j, h => by
    rw [bst]
    split
    · rename_i g
      rcases Nat.lt_succ_iff_lt_or_eq.1 h with h1 | rfl
      · have := bst_least f n j h1; omega
      · exact Nat.le_refl _
    · rename_i g
      rcases Nat.lt_succ_iff_lt_or_eq.1 h with h1 | rfl
      · exact bst_least f n j h1
      · omega
/-- What BestHandle tells of drawn handles. -/
theorem hand_facts {cs : List R2} {hs : List Int} (ho : okGs cs = true) (hl : hs.length ≤ 10) (hl0 : 1 ≤ hs.length) (hh : ∀ x ∈ hs, 0 ≤ x ∧ x ≤ 40) (hc : cs.length ≠ 0) :
    ∃ k : Nat, handV cs hs = ((k : Int), 0) ∧ k < hs.length ∧ ∀ j : Nat, j < hs.length → absI (momentI (hs.getD k 0) cs) ≤ absI (momentI (hs.getD j 0) cs) := by
  refine ⟨bst (offN cs hs) hs.length, ?_, bst_lt _ _ (by omega), fun j hj => ?_⟩
  · unfold handV
    rw [if_pos ho, if_pos ⟨hl, allIn_of fun x hx => by have := hh x hx; omega⟩, if_neg (by omega)]
  · have h1 : (momentI (hs.getD (bst (offN cs hs) hs.length) 0) cs).natAbs ≤ (momentI (hs.getD j 0) cs).natAbs := bst_least (offN cs hs) hs.length j hj
    rw [← absI_nat, ← absI_nat]
    exact Int.ofNat_le.2 h1
theorem hand_none {cs : List R2} {hs : List Int} (ho : okGs cs = true) (hl : hs.length ≤ 10) (hh : ∀ x ∈ hs, 0 ≤ x ∧ x ≤ 40) (hc : cs.length = 0) : handV cs hs = (0, 3) := by
  unfold handV
  rw [if_pos ho, if_pos ⟨hl, allIn_of fun x hx => by have := hh x hx; omega⟩, if_pos (.inl hc)]
/-- What StrandsFor tells. -/
theorem strand_facts {cs : List R2} {s : Int} (ho : okGs cs = true) (hs : 100 ≤ s ∧ s ≤ 2000) :
    ∃ v : Int, strandsV cs s 3 = (v, 0) ∧ 0 ≤ v ∧ v ≤ 300000 ∧ 3 * weightI cs ≤ v * s ∧ (0 < v → (v - 1) * s < 3 * weightI cs) := by
  have hw := weightAll_bd ho
  refine ⟨ovr (3 * weightI cs) s, by unfold strandsV; rw [if_pos ho, if_pos (by rw [(inB_iff s 1 100000).2 ⟨by omega, by omega⟩]; rfl)], ?_⟩
  generalize weightI cs = W at *
  have hb := ovr_bd (a := 3 * W) (b := s) (by omega) (by omega)
  rcases Int.lt_or_eq_of_le (show 0 ≤ W by omega) with h | h
  · obtain ⟨a, b, c, d⟩ := ovr_facts (t := 3 * W) (s := s) (by omega) (by omega)
    exact ⟨hb.1, by omega, c, fun _ => d⟩
  · subst h
    have e : ovr (3 * 0) s = 0 := by omega
    rw [e]
    exact ⟨by omega, by omega, by omega, fun h => absurd h (by omega)⟩
/-- What WithoutGood tells of the first good. -/
theorem without_facts {cs : List R2} {x : R2} (ho : okGs cs = true) (hx : cs[0]? = some x) :
    withV cs 0 = (cs.drop 1, 0) ∧ okGs (cs.drop 1) = true ∧ momentI 0 (cs.drop 1) = momentI 0 cs - x.1 * x.2 ∧ 0 ≤ momentI 0 (cs.drop 1) ∧ 0 ≤ momentI 0 cs := by
  have hl := (List.getElem?_eq_some_iff.1 hx).1
  have hod : okGs (cs.drop 1) = true := okGs_iff.2 ⟨fun y hy => (okGs_iff.1 ho).1 y (List.mem_of_mem_drop hy), by have := (okGs_iff.1 ho).2; simp; omega⟩
  refine ⟨?_, hod, ?_, moment0_nonneg hod, moment0_nonneg ho⟩
  · unfold withV
    rw [if_pos ho, if_pos ((inB_iff _ _ _).2 ⟨by omega, by omega⟩)]
    simp
  · match cs, hx with
    | y :: ys, hx =>
      simp at hx
      subst hx
      simp [momentI]
      omega
end Go.Proofs.Ytkkipkmjhakknaa
