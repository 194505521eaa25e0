/- HeightAt: the program's and the reference's. -/
import Derived.Test.YtelbedmfnmjehaaHigh
namespace Go.Proofs.Ytelbedmfnmjehaa
open Go.RowKit
set_option linter.unusedVariables false
set_option linter.unusedSimpArgs false

theorem nearest_below (a : Int) (w : World) (h0 : 0 ≤ a) (h1 : a ≤ 10800000) : Calls Try.prog 71 #[.int .i64 a, .int .i64 1000] w fun e w' => e = .returned (.int .i64 (rnd a)) ∧ Below w.heap.size w w' :=
  (nearest_any a w h0 h1).mono fun _ _ ⟨e, q, hq⟩ => ⟨e, hq ▸ drew_below w q⟩
theorem okCs_take {cs : List R3} (ho : okCs cs = true) (k : Nat) : okCs (cs.take k) = true := by
  rw [okCs_iff] at ho ⊢
  exact ⟨fun x hx => ho.1 x (List.mem_of_mem_take hx), by have := ho.2; simp; omega⟩
theorem Recs.take {w : World} {A : Option Addr} {n : Nat} {cs : List R3} (h : Recs w A n cs) {k : Nat} (hk : k ≤ n) : Recs w A k (cs.take k) := by
  refine ⟨by have := h.1; simp; omega, fun hn => ?_⟩
  obtain ⟨b, off, e, hlt, hc⟩ := h.2 (by omega)
  refine ⟨b, off, e, hlt, fun j x hx => ?_⟩
  have hj := (List.getElem?_eq_some_iff.1 hx).1
  simp at hj
  rw [List.getElem?_take, if_pos (by omega)] at hx
  exact hc j x hx
theorem highL_snoc {cs : List R3} {p : Int} (k : Nat) : ((List.range (k + 1)).map fun k => rnd (sumT (cs.take k) * p)) = ((List.range k).map fun k => rnd (sumT (cs.take k) * p)) ++ [rnd (sumT (cs.take k) * p)] := by
  rw [List.range_succ, List.map_append]; rfl
def HighPost (cs : List R3) (p : Int) (w : World) (e : Ending) (w' : World) : Prop :=
  ∃ C q c, e = .returned (.tuple #[.slice C q c, .int .i64 (highV cs p).2]) ∧ OwnI w' w.heap.size (.slice C q c) q (highV cs p).1 ∧ Below w.heap.size w w'

set_option maxHeartbeats 1000000 in
theorem implHeightAt_any (A : Option Addr) (n c : Nat) (cs : List R3) (p : Int) (w : World) (h : Recs w A n cs) (hn : n ≤ 1048576) : Calls Try.prog 36 #[.slice A n c, .int .i64 p] w (HighPost cs p w) := by
  obtain ⟨i0, hi0, hz0, hz1, hz2⟩ := info_parts info_i64
  cases ho : okCs cs
  · have hv : highV cs p = ([], 1) := by simp [highV, ho]
    go_enter Try.func36, Try.ntmps36
    go_wp2_with (first | (go_at_call 27; refine (validCourses_eq _ _ _ _ false _ h hn ho).mono ?_; rintro e w1 ⟨rfl, hb1⟩) | (go_at_call 60; refine (isPacked_any _ _).mono ?_; rintro e w' ⟨rfl, rfl⟩))
    go_ret2
    exact ⟨none, 0, 0, by rw [hv]; rfl, by rw [hv]; exact World.ownsRow_nil _ _ _ _, by first | exact hb1 | exact Below.refl _ _⟩
  cases hp : inB p 50 100
  · have hv : highV cs p = ([], 2) := by simp [highV, ho, hp]
    go_enter Try.func36, Try.ntmps36
    go_wp2_with (first | (go_at_call 27; refine (validCourses_eq _ _ _ _ true _ h hn ho).mono ?_; rintro e w1 ⟨rfl, hb1⟩) | (go_at_call 60; refine (isPacked_any _ _).mono ?_; rintro e w' ⟨rfl, rfl⟩))
    go_ret2
    exact ⟨none, 0, 0, by rw [hv]; rfl, by rw [hv]; exact World.ownsRow_nil _ _ _ _, by first | exact hb1 | exact Below.refl _ _⟩
  have hv : highV cs p = (highL cs p, 0) := by simp [highV, ho, hp]
  have hip := (inB_iff _ _ _).1 hp
  have HV := Lib.hid hv
  have HL := Lib.hid h.1
  have hle := (okCs_iff.1 ho).2
  have hn60 : n ≤ 60 := by rw [← h.1]; exact hle
  clear hv hle
  have HB := Lib.hid (sumT_bd ho)
  go_enter Try.func36, Try.ntmps36
  go_wp2_with (first | (go_at_call 27; refine (validCourses_eq _ _ _ _ true _ h hn ho).mono ?_; rintro e w1 ⟨rfl, hb1⟩) | (go_at_call 60; refine (isPacked_any _ _).mono ?_; rintro e w' ⟨rfl, rfl⟩))
  go_loopw [6, 7, 19] (fun v s i wr => ∃ k : Nat, k ≤ n ∧ i = .int .i64 k ∧ s = .int .i64 (sumT (cs.take k)) ∧ (∃ C q, v = .slice C k q ∧ OwnI wr w.heap.size (.slice C k q) k ((List.range k).map fun k => rnd (sumT (cs.take k) * p))) ∧ Below w.heap.size w wr) (fun _ _ i _ => n - (intOf i).toNat)
  case atStart =>
    refine ⟨0, Nat.zero_le _, rfl, by simp [sumT], ⟨_, _, rfl, ?_⟩, ?_⟩
    · exact World.ownsRow_made _ _ _ hb1.size (by unfold maxLen; omega) (by simp)
    · exact hb1.alloc hb1.size _
  case round =>
    clear hb1
    obtain ⟨k, hk, rfl, rfl, ⟨C, q, rfl, hown⟩, hB⟩ := hrel
    have hbk := HB.out k (by rw [HL.out]; exact hk)
    have hpk := mulb (x := sumT (cs.take k)) (y := p) (A := 108000) (B := 100) (by omega) (by omega) (by omega) (by omega)
    by_cases hlt : k < n
    · obtain ⟨b, off, x, rfl, hblt, hx, hc0, hc1, hc2⟩ := (h.keep hB).at_ hlt
      obtain ⟨x1, x2, x3, x4⟩ := okC_bd ho hx
      have hs1 : sumT (cs.take (k + 1)) = sumT (cs.take k) + x.2.1 * x.2.2 := by rw [take_snoc' hx, sumT_snoc]
      have H1 := Lib.hid hs1
      have hbs := hB.size
      have hrn := rnd_bd (a := sumT (cs.take k) * p) (by omega) (by omega)
      clear hs1 hx
      go_wp2_with fail
      refine (nearest_below _ _ (by omega) (by omega)).mono ?_
      rintro e w2 ⟨rfl, hb2⟩
      have d1 : (wr.alloc (.cells #[.int .i64 x.1, .int .i64 x.2.1, .int .i64 x.2.2] 26)).cell? ⟨wr.heap.size, 1, none⟩ = some (.int .i64 x.2.1) := by go_cell
      have d2 : (wr.alloc (.cells #[.int .i64 x.1, .int .i64 x.2.1, .int .i64 x.2.2] 26)).cell? ⟨wr.heap.size, 2, none⟩ = some (.int .i64 x.2.2) := by go_cell
      replace d1 := keepc hb2 d1
      replace d2 := keepc hb2 d2
      have hB2 : Below w.heap.size w w2 := belowT hb2 (hB.alloc hbs _)
      have hlX := OwnI.lt hown
      have hne : ∀ o : Nat, some (⟨wr.heap.size, o, none⟩ : Addr).block ≠ (Value.slice C k q).ownBlock := fun o e => by rw [blk_own] at e; have := (hlX _ e.symm).2; simp only at this; omega
      replace hown : OwnI w2 w.heap.size (.slice C k q) k ((List.range k).map fun k => rnd (sumT (cs.take k) * p)) := OwnI.keep (OwnI.keep hown ((Below.refl _ _).alloc (Nat.le_refl _) _)) hb2
      have hsz2 := hB2.size
      clear hb2 hlX
      generalize wr.heap.size = X at *
      generalize hr : rnd (sumT (cs.take k) * p) = r at *
      have Hr := Lib.hid hr
      clear hr
      go_wp2_with (at_builtin; refine wpList_append_own _ rfl _ _ 50 rfl w.heap.size 2 i0 (.int .i64 0) 1 8 Try.underlying50 hi0 hz0 hz1 hz2 rfl (by decide) _ _ _ rfl (hown.alloc _) ⟨_, 0, none⟩ 1 1 [.int .i64 r] rfl rfl (cell_one_new _ _ _) (ints_oneCell .i64 [r]) (by unfold maxLen; omega) (by omega) (by simp; omega) ?_; intro v1 w3 hown1 hgrow1 _; have f1 := hgrow1.cell (keepc ((Below.refl _ _).alloc (Nat.le_refl _) _) d1) (hne 1); have f2 := hgrow1.cell (keepc ((Below.refl _ _).alloc (Nat.le_refl _) _) d2) (hne 2))
      go_roundw
      case rel =>
        obtain ⟨C', p', rfl, hown'⟩ := own_app hown1
        refine ⟨k + 1, by omega, by go_num, by rw [H1.out], ⟨_, _, rfl, ?_⟩, below_app hB2 hown hgrow1⟩
        rw [highL_snoc, Hr.out]
        exact hown'
      case measure => simp [intOf]; omega
    · obtain rfl : k = n := by omega
      go_wp2
      go_ret2
      refine ⟨_, _, _, by rw [HV.out]; rfl, ?_, hB⟩
      rw [HV.out]
      unfold highL
      rw [HL.out]
      exact hown

theorem specHeightAt_any (A : Option Addr) (n c : Nat) (cs : List R3) (p : Int) (w : World) (h : Recs w A n cs) (hn : n ≤ 1048576) (hnc : n ≤ c) : Calls Try.prog 35 #[.slice A n c, .int .i64 p] w (HighPost cs p w) := by
  obtain ⟨i0, hi0, hz0, hz1, hz2⟩ := info_parts info_i64
  cases ho : okCs cs
  · have hv : highV cs p = ([], 1) := by simp [highV, ho]
    go_enter Try.func35, Try.ntmps35
    go_wp2_with (first | (go_at_call 66; refine (l13Ok_eq _ _ _ _ false _ h hn ho).mono ?_; rintro e w' ⟨rfl, rfl⟩) | (go_at_call 58; refine (l13Packed_any _ _).mono ?_; rintro e w' ⟨rfl, rfl⟩))
    go_ret2
    exact ⟨none, 0, 0, by rw [hv]; rfl, by rw [hv]; exact World.ownsRow_nil _ _ _ _, by first | exact hb1 | exact Below.refl _ _⟩
  cases hp : inB p 50 100
  · have hv : highV cs p = ([], 2) := by simp [highV, ho, hp]
    go_enter Try.func35, Try.ntmps35
    go_wp2_with (first | (go_at_call 66; refine (l13Ok_eq _ _ _ _ true _ h hn ho).mono ?_; rintro e w' ⟨rfl, rfl⟩) | (go_at_call 58; refine (l13Packed_any _ _).mono ?_; rintro e w' ⟨rfl, rfl⟩))
    go_ret2
    exact ⟨none, 0, 0, by rw [hv]; rfl, by rw [hv]; exact World.ownsRow_nil _ _ _ _, by first | exact hb1 | exact Below.refl _ _⟩
  have hv : highV cs p = (highL cs p, 0) := by simp [highV, ho, hp]
  have hip := (inB_iff _ _ _).1 hp
  have HV := Lib.hid hv
  have HL := Lib.hid h.1
  have hle := (okCs_iff.1 ho).2
  have hn60 : n ≤ 60 := by rw [← h.1]; exact hle
  clear hv hle
  have HB := Lib.hid (sumT_bd ho)
  go_enter Try.func35, Try.ntmps35
  go_wp2_with (first | (go_at_call 66; refine (l13Ok_eq _ _ _ _ true _ h hn ho).mono ?_; rintro e w' ⟨rfl, rfl⟩) | (go_at_call 58; refine (l13Packed_any _ _).mono ?_; rintro e w' ⟨rfl, rfl⟩))
  go_loopw [6, 7] (fun v i wr => ∃ k : Nat, k ≤ n ∧ i = .int .i64 k ∧ (∃ C q, v = .slice C k q ∧ OwnI wr w.heap.size (.slice C k q) k ((List.range k).map fun k => rnd (sumT (cs.take k) * p))) ∧ Below w.heap.size w wr) (fun _ i _ => n - (intOf i).toNat)
  case atStart =>
    refine ⟨0, Nat.zero_le _, rfl, ⟨_, _, rfl, ?_⟩, ?_⟩
    · exact World.ownsRow_made _ _ _ (by simp) (by unfold maxLen; omega) (by simp)
    · exact (Below.refl _ _).alloc (by simp) _
  case round =>
    obtain ⟨k, hk, rfl, ⟨C, q, rfl, hown⟩, hB⟩ := hrel
    have hbk := HB.out k (by rw [HL.out]; exact hk)
    have hpk := mulb (x := sumT (cs.take k)) (y := p) (A := 108000) (B := 100) (by omega) (by omega) (by omega) (by omega)
    by_cases hlt : k < n
    · have hbs := hB.size
      have hrn := rnd_bd (a := sumT (cs.take k) * p) (by omega) (by omega)
      have hkc : k ≤ c := by omega
      go_wp2_with fail
      refine (l13Sum_any _ _ _ _ _ ((h.keep hB).take hk) (by omega) (okCs_take ho k)).mono ?_
      rintro e w2 ⟨rfl, u, hw2⟩
      have hb2 : Below wr.heap.size wr w2 := hw2 ▸ drew_below wr u
      clear hw2
      have hB2 : Below w.heap.size w w2 := belowT hb2 hB
      replace hown : OwnI w2 w.heap.size (.slice C k q) k ((List.range k).map fun k => rnd (sumT (cs.take k) * p)) := OwnI.keep hown hb2
      have hsz2 := hB2.size
      clear hb2
      go_wp2_with fail
      refine (l00Round_any _ _ (by omega) (by omega)).mono ?_
      rintro e w' ⟨rfl, rfl⟩
      generalize hr : rnd (sumT (cs.take k) * p) = r at *
      have Hr := Lib.hid hr
      clear hr
      go_wp2_with (at_builtin; refine wpList_append_own _ rfl _ _ 50 rfl w.heap.size 2 i0 (.int .i64 0) 1 8 Try.underlying50 hi0 hz0 hz1 hz2 rfl (by decide) _ _ _ rfl (hown.alloc _) ⟨_, 0, none⟩ 1 1 [.int .i64 r] rfl rfl (cell_one_new _ _ _) (ints_oneCell .i64 [r]) (by unfold maxLen; omega) (by omega) (by simp; omega) ?_; intro v1 w1 hown1 hgrow1 _)
      go_roundw
      case rel =>
        obtain ⟨C', p', rfl, hown'⟩ := own_app hown1
        refine ⟨k + 1, by omega, by go_num, ⟨_, _, rfl, ?_⟩, below_app hB2 hown hgrow1⟩
        rw [highL_snoc, Hr.out]
        exact hown'
      case measure => simp [intOf]; omega
    · obtain rfl : k = n := by omega
      go_wp2
      go_ret2
      refine ⟨_, _, _, by rw [HV.out]; rfl, ?_, hB⟩
      rw [HV.out]
      unfold highL
      rw [HL.out]
      exact hown
end Go.Proofs.Ytelbedmfnmjehaa
