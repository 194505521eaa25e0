/- WithoutGood of the program and of the reference. -/
import Derived.Test.YtkkipkmjhakknaaWitho2
namespace Go.Proofs.Ytkkipkmjhakknaa
open Go.RowKit
set_option linter.unusedVariables false
set_option linter.unusedSimpArgs false

def withV (cs : List R2) (k : Int) : List R2 × Int := if okGs cs then (if inB k 0 ((cs.length : Int) - 1) then (cs.take k.toNat ++ cs.drop (k.toNat + 1), 0) else ([], 2)) else ([], 1)
theorem withV_len (cs : List R2) (k : Int) : (withV cs k).1.length ≤ cs.length := by
  unfold withV
  split
  · split
    · simp only [List.length_append, List.length_take, List.length_drop]; omega
    · simp
  · simp
theorem ownsRow_low {w : World} {base base' : Nat} {e : TypeId} {size : Nat} {v : Value} {n : Nat} {xs : List Value} (h : w.ownsRow base e size v n xs) (hb : base' ≤ base) : w.ownsRow base' e size v n xs := by
  refine ⟨h.1, ?_⟩
  rcases h.2 with h2 | ⟨g, cap, cur, hv, hg, h3⟩
  · exact .inl h2
  · exact .inr ⟨g, cap, cur, hv, Nat.le_trans hb hg, h3⟩
def WithPost (r : List R2 × Int) (w : World) (e : Ending) (w' : World) : Prop :=
  ∃ C q p, e = .returned (.tuple #[.slice C q p, .int .i64 r.2]) ∧ OwnR w' w.heap.size (.slice C q p) q r.1 ∧ Below w.heap.size w w'
theorem OwnR.nil (w : World) (base : Nat) : OwnR w base (.slice none 0 0) 0 [] := ⟨[], World.ownsRow_nil _ _ _ _, rfl, fun j x h => by omega⟩
set_option maxHeartbeats 1000000 in
theorem implWithout_any (A : Option Addr) (n c : Nat) (cs : List R2) (k : Int) (w : World) (h : Recs w A n cs) (hn : n ≤ 1048576) : Calls Try.prog 25 #[.slice A n c, .int .i64 k] w (WithPost (withV cs k) w) := by
  cases ho : okGs cs
  · have hv : withV cs k = ([], 1) := by simp [withV, ho]
    rw [hv]
    clear hv
    go_enter Try.func25, Try.ntmps25
    go_wp2_with (go_at_call 29; refine (validGoods_eq _ _ _ _ false _ h hn ho).mono ?_; rintro e w1 ⟨rfl, hb1⟩)
    go_ret2
    exact ⟨none, 0, 0, rfl, OwnR.nil _ _, hb1⟩
  cases hk : inB k 0 ((n : Int) - 1)
  · have hv : withV cs k = ([], 2) := by unfold withV; rw [ho, h.1, hk]; rfl
    rw [hv]
    clear hv
    go_enter Try.func25, Try.ntmps25
    go_wp2_with (first | (go_at_call 29; refine (validGoods_eq _ _ _ _ true _ h hn ho).mono ?_; rintro e w1 ⟨rfl, hb1⟩) | (go_at_call 61; refine (within_any _ _ _ _).mono ?_; rintro e w' ⟨rfl, rfl⟩))
    go_ret2
    exact ⟨none, 0, 0, rfl, OwnR.nil _ _, hb1⟩
  obtain ⟨k0, k1⟩ := (inB_iff _ _ _).1 hk
  obtain ⟨k, rfl⟩ := Int.eq_ofNat_of_zero_le k0
  have hv : withV cs k = (cs.take k ++ cs.drop (k + 1), 0) := by unfold withV; rw [ho, h.1, hk]; rfl
  rw [hv]
  clear hv
  have hkn : k < n := by omega
  go_enter Try.func25, Try.ntmps25
  go_wp2_with (first | (go_at_call 29; refine (validGoods_eq _ _ _ _ true _ h hn ho).mono ?_; rintro e w1 ⟨rfl, hb1⟩) | (go_at_call 61; refine (within_any _ _ _ _).mono ?_; rintro e w' ⟨rfl, rfl⟩))
  refine (cloneGood_any _ _ _ _ _ (h.keep hb1) (by omega) hn).mono ?_
  rintro e w2 ⟨g, cap, rfl, hO, hb2⟩
  have hB2 := belowT hb2 hb1
  have hz1 := hb1.size
  go_wp2_with fail
  refine (delGood_any _ _ _ _ _ _ _ hO hkn hn).mono ?_
  rintro e w3 ⟨rfl, hO3, hg⟩
  have hgb := hO.own.lt g rfl
  go_wp2_with fail
  go_ret2
  obtain ⟨xs, x1, x2, x3⟩ := hO3
  exact ⟨_, _, _, rfl, ⟨xs, ownsRow_low x1 hz1, x2, x3⟩, hB2.grown hg hB2.size (fun j e => by injection e with e; omega)⟩
set_option maxHeartbeats 1000000 in
theorem specWithout_any (A : Option Addr) (n c : Nat) (cs : List R2) (k : Int) (w : World) (h : Recs w A n cs) (hn : n ≤ 1048576) (hnc : n ≤ c) (hcm : c ≤ 9223372036854775807) : Calls Try.prog 34 #[.slice A n c, .int .i64 k] w (WithPost (withV cs k) w) := by
  obtain ⟨i0, hi0, hz0, hz1, hz2⟩ := info_parts info_R2
  cases ho : okGs cs
  · have hv : withV cs k = ([], 1) := by simp [withV, ho]
    rw [hv]
    clear hv
    go_enter Try.func34, Try.ntmps34
    go_wp2_with (go_at_call 66; refine (l14Ok_eq _ _ _ _ false _ h hn ho).mono ?_; rintro e w' ⟨rfl, rfl⟩)
    go_ret2
    exact ⟨none, 0, 0, rfl, OwnR.nil _ _, Below.refl _ _⟩
  cases hk : inB k 0 ((n : Int) - 1)
  · have hv : withV cs k = ([], 2) := by unfold withV; rw [ho, h.1, hk]; rfl
    rw [hv]
    clear hv
    go_enter Try.func34, Try.ntmps34
    go_wp2_with (first | (go_at_call 66; refine (l14Ok_eq _ _ _ _ true _ h hn ho).mono ?_; rintro e w' ⟨rfl, rfl⟩) | (go_at_call 69; refine (l00In_any _ _ _ _).mono ?_; rintro e w' ⟨rfl, rfl⟩))
    go_ret2
    exact ⟨none, 0, 0, rfl, OwnR.nil _ _, Below.refl _ _⟩
  obtain ⟨k0, k1⟩ := (inB_iff _ _ _).1 hk
  obtain ⟨k, rfl⟩ := Int.eq_ofNat_of_zero_le k0
  have hv : withV cs k = (cs.take k ++ cs.drop (k + 1), 0) := by unfold withV; rw [ho, h.1, hk]; rfl
  rw [hv]
  clear hv
  have hkn : k < n := by omega
  obtain ⟨b, off, rfl, hlt, hc⟩ := h.2 (by omega)
  have HL := Lib.hid h.1
  have cellF : ∀ j u, (flatR cs)[j]? = some u → w.cell? ⟨b, off + j, none⟩ = some u := fun j u hj => by
    obtain ⟨x, hx, hu⟩ := flatR_cut hj
    obtain ⟨a0, a1⟩ := hc _ _ hx
    rcases hu with ⟨e, rfl⟩ | ⟨e, rfl⟩
    · rw [show off + j / 2 * 2 = off + j by omega] at a0; exact a0
    · rw [show off + j / 2 * 2 + 1 = off + j by omega] at a1; exact a1
  have oneF : ∀ ds : List R2, ∀ u ∈ flatR ds, u.oneCell' = true := fun ds u hu => by
    obtain ⟨j, hj, e⟩ := List.mem_iff_getElem.1 hu
    obtain ⟨x, _, h2⟩ := flatR_cut (show (flatR ds)[j]? = some u by rw [List.getElem?_eq_getElem hj, e])
    rcases h2 with ⟨_, rfl⟩ | ⟨_, rfl⟩ <;> rfl
  obtain ⟨Ad, hA, hAd⟩ : ∃ A : Addr, (if c = k + 1 then some (⟨b, off, none⟩ : Addr) else some ⟨b, off + (k + 1) * 2, none⟩) = some A ∧ ∀ t u, (flatR (cs.drop (k + 1)))[t]? = some u → w.cell? (A.add t) = some u := by
    by_cases e : c = k + 1
    · refine ⟨⟨b, off, none⟩, by simp [e], fun t u hu => ?_⟩
      have h0 : (flatR (cs.drop (k + 1))).length = 0 := by rw [flatR_len, List.length_drop, HL.out]; omega
      rw [List.length_eq_zero_iff.1 h0] at hu
      simp at hu
    · refine ⟨⟨b, off + (k + 1) * 2, none⟩, by simp [e], fun t u hu => ?_⟩
      rw [flatR_drop, List.getElem?_drop] at hu
      rw [Addr.add_lit, Nat.add_assoc]
      exact cellF _ _ hu
  have CF := Lib.hid cellF
  have AF := Lib.hid hAd
  have OF := Lib.hid oneF
  have hb0 : Below w.heap.size w (w.alloc (.cells #[] 37)) := (Below.refl _ _).alloc (Nat.le_refl _) _
  have k6 : (0 : Int) ≤ (k : Int) + 1 := by omega
  have k7 : (k : Int) + 1 ≤ (n : Int) := by omega
  have k5 : ((k : Int) + 1).toNat = k + 1 := by omega
  have hic : k ≤ c := by omega
  have hjc : k + 1 ≤ c := by omega
  clear cellF oneF hAd hc
  go_enter Try.func34, Try.ntmps34
  go_wp2_with (first | (go_at_call 66; refine (l14Ok_eq _ _ _ _ true _ h hn ho).mono ?_; rintro e w' ⟨rfl, rfl⟩) | (go_at_call 69; refine (l00In_any _ _ _ _).mono ?_; rintro e w' ⟨rfl, rfl⟩) | (at_builtin; refine wpList_append_own _ rfl _ _ 31 rfl w.heap.size 37 i0 (.agg #[.int .i64 0, .int .i64 0]) 2 16 Try.underlying31 hi0 hz0 hz1 hz2 rfl (by decide) _ _ _ rfl (World.ownsRow_made w #[] 0 (Nat.le_refl _) (Nat.zero_le _) rfl) ⟨b, off, none⟩ k c (flatR (cs.take k)) rfl ?qc1 ?qc2 ?qc3 ?qc4 ?qc5 ?qc6 ?_))
  case qc1 => rw [flatR_len, List.length_take, HL.out]; omega
  case qc2 =>
    intro j u hj
    rw [Addr.add_lit]
    refine keepc hb0 (CF.out j u ?_)
    rw [flatR_take, List.getElem?_take] at hj
    split at hj
    · exact hj
    · cases hj
  case qc3 => exact OF.out _
  case qc4 => unfold maxLen; omega
  case qc5 => omega
  case qc6 => simp
  intro v1 w1 hown hgrow hnil
  have hown1 : w1.ownsRow w.heap.size 37 2 v1 k (flatR (cs.take k)) := by simpa using hown
  have hB1 := hb0.grown hgrow (by simp) (by intro j hj; simp [Value.ownBlock] at hj; omega)
  have hz := hB1.size
  clear hown hgrow hnil hb0
  go_wp2_with (at_builtin; refine wpList_append_own _ rfl _ _ 31 rfl w.heap.size 37 i0 (.agg #[.int .i64 0, .int .i64 0]) 2 16 Try.underlying31 hi0 hz0 hz1 hz2 rfl (by decide) _ _ _ rfl hown1 Ad (n - (k + 1)) (c - (k + 1)) (flatR (cs.drop (k + 1))) rfl ?qd1 ?qd2 ?qd3 ?qd4 ?qd5 ?qd6 ?_)
  case qd1 => rw [flatR_len, List.length_drop, HL.out]
  case qd2 => exact fun j u hj => keepc hB1 (AF.out j u hj)
  case qd3 => exact OF.out _
  case qd4 => unfold maxLen; omega
  case qd5 => omega
  case qd6 => exact hz
  intro v2 w2 hown2 hgrow2 hnil2
  go_wp2
  go_ret2
  rw [← flatR_append] at hown2
  have hBf := hB1.grown hgrow2 hz (fun j hj => (World.ownsRow.lt hown1 j hj).1)
  rcases hown2.2 with ⟨rfl, h2⟩ | ⟨g, cap, cur, hv, _⟩
  · have h3 := ownR_of hown2
    rw [h2] at h3
    exact ⟨_, _, _, rfl, h3, hBf⟩
  · subst hv
    exact ⟨_, _, _, rfl, ownR_of hown2, hBf⟩
end Go.Proofs.Ytkkipkmjhakknaa
