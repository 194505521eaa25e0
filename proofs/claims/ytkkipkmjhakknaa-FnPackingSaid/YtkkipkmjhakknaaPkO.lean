/- A drawn order: A2Order. -/
import Derived.Test.YtkkipkmjhakknaaPkD
import Derived.Test.YtkkipkmjhakknaaPkT
namespace Go.Proofs.Ytkkipkmjhakknaa
open Go.RowKit
set_option linter.unusedVariables false
set_option linter.unusedSimpArgs false

theorem own_some {w : World} {base : Nat} {C : Option Addr} {q c : Nat} {zs : List Int} (h : OwnI w base (.slice C q c) q zs) (hq : 0 < q) : ∃ g, C = some ⟨g, 0, none⟩ ∧ q ≤ c ∧ c ≤ maxLen := by
  rcases h.2 with ⟨_, h0⟩ | ⟨g, cap, cur, hv, hg, _, h1, h2, _⟩
  · omega
  · injection hv with e1 e2 e3
    subst e1; subst e3
    exact ⟨g, rfl, h1, h2⟩
theorem plc_ins {i k : Nat} {zs : List Int} (h : Plc i zs) : Plc (i + 1) (zs.take k ++ [(i : Int)] ++ zs.drop k) := by
  have hmem : ∀ x, x ∈ zs.take k ++ [(i : Int)] ++ zs.drop k ↔ x ∈ (i : Int) :: zs := fun x => by
    have : x ∈ zs ↔ x ∈ zs.take k ∨ x ∈ zs.drop k := by rw [← List.mem_append, List.take_append_drop]
    simp only [List.mem_append, List.mem_cons, List.mem_singleton, List.not_mem_nil, or_false, this]
    constructor
    · rintro ((h | h) | h)
      · exact .inr (.inl h)
      · exact .inl h
      · exact .inr (.inr h)
    · rintro (h | h | h)
      · exact .inl (.inr h)
      · exact .inl (.inl h)
      · exact .inr h
  refine ⟨?_, fun u hu => ?_⟩
  · have hp : (zs.take k ++ [(i : Int)] ++ zs.drop k).Perm ((i : Int) :: zs) := by
      have h1 : (zs.take k ++ [(i : Int)] ++ zs.drop k).Perm ((i : Int) :: (zs.take k ++ zs.drop k)) := by
        rw [List.append_assoc]
        exact List.perm_middle
      rw [List.take_append_drop] at h1
      exact h1
    rw [hp.nodup_iff, List.nodup_cons]
    exact ⟨fun hm => by have := h.2 _ hm; omega, h.1⟩
  · rcases List.mem_cons.1 ((hmem u).1 hu) with rfl | hm
    · omega
    · have := h.2 u hm; omega
theorem ord_far {w3 w4 : World} {o : Obj} {base b2 g i cp k p3 : Nat} {C3 : Option Addr} {zs : List Int} (h : OwnI w3 base (.slice (some ⟨g, 0, none⟩) i cp) i zs) (ho : ∀ x, blk C3 = some x → b2 ≤ x ∧ x < w3.heap.size) (hg : g < b2) (hgr : (w3.alloc o).grownBy w4 (Value.slice C3 k p3).ownBlock) : OwnI w4 base (.slice (some ⟨g, 0, none⟩) i cp) i zs := by
  rw [blk_own] at hgr
  refine OwnI.grown (World.ownsRow.alloc h _) hgr (fun g' e e2 => ?_)
  have h1 := (ho g' e).1
  have h2 : g = g' := by simpa [blk] using e2
  omega
def DrewOrder (m : Nat) (w : World) (e : Ending) (w' : World) : Prop :=
  ∃ g c zs, e = .returned (.slice (some ⟨g, 0, none⟩) m c) ∧ OwnI w' w.heap.size (.slice (some ⟨g, 0, none⟩) m c) m zs ∧ (m ≤ c ∧ c ≤ maxLen) ∧ Plc m zs ∧ Below w.heap.size w w'
set_option maxHeartbeats 4000000 in
theorem a2Order_any (A : Option Addr) (n c m : Nat) (w : World) (h : Bytes w w.heap.size A n) (hm : m ≤ 1000) : Calls Try.prog 20 #[.slice A n c, .int .i64 m] w (DrewOrder m w) := by
  obtain ⟨i0, hi0, hz0, hz1, hz2⟩ := info_parts info_i64
  go_enter Try.func20, Try.ntmps20
  go_wp2_with fail
  refine (l00From_any _ _ _ _ _ h (Nat.le_refl _)).mono ?_
  rintro e w1 ⟨rfl, hs1, hB⟩
  have hlt1 := hs1.lt
  go_wp2_with fail
  go_loopw [6, 7] (fun v i wr => ∃ k : Nat, k ≤ m ∧ i = .int .i64 k ∧ (∃ g c zs, v = .slice (some ⟨g, 0, none⟩) k c ∧ OwnI wr w1.heap.size (.slice (some ⟨g, 0, none⟩) k c) k zs ∧ (k ≤ c ∧ c ≤ maxLen) ∧ Plc k zs) ∧ Src wr w.heap.size w.heap.size (2 * k) ∧ w1.grownBy wr (some w.heap.size)) (fun _ i _ => m - (intOf i).toNat)
  case atStart => exact ⟨0, Nat.zero_le _, rfl, ⟨_, _, [], rfl, World.ownsRow_made _ _ _ (Nat.le_refl _) (by unfold maxLen; omega) (by simp), ⟨Nat.le_refl _, Nat.zero_le _⟩, Plc.nil _⟩, hs1.alloc _, World.grownBy_alloc _ _ _⟩
  case round =>
    clear hs1
    obtain ⟨i, hi, rfl, ⟨g, cp, zs, rfl, hown, ⟨hcp, hcm⟩, hP⟩, hs, hg⟩ := hrel
    have hsz := hg.size
    unfold maxLen at hcm
    by_cases hlt : i < m
    · go_wp2_with fail
      refine (pick_any ((i : Int) + 1) w.heap.size w.heap.size _ wr hs (by omega) (by omega)).mono ?_
      rintro e w2 ⟨v, rfl, v0, v1, hs2, hg2⟩
      obtain ⟨k, rfl⟩ := Int.eq_ofNat_of_zero_le v0
      have hki : k ≤ i := by omega
      have hob := OwnI.lt hown
      have hne : ∀ g', some w.heap.size = some g' → blk (some (⟨g, 0, none⟩ : Addr)) ≠ some g' := fun g' e hC => by injection e with e; have := (hob g' hC).1; omega
      replace hown := OwnI.grown hown hg2 hne
      have hG2 := World.grownBy.trans hg hg2
      clear hs hg hg2 hob hsz hne
      have hob := OwnI.lt hown g rfl
      have hsz2 := hG2.size
      have hin := OwnI.ints hown
      have HL := Lib.hid hin.1
      have htk := hin.take hki
      have hkc : k ≤ cp := by omega
      go_wp2_with fail
      refine (l00Own_any _ _ _ _ _ htk (by omega)).mono ?_
      rintro e w3 ⟨C3, p3, rfl, hO3, hb3⟩
      have hsz3 := hb3.size
      have hown3 := OwnI.keep hown hb3
      have hs3 := hs2.keep hb3
      have hG3 := World.grownBy.trans hG2 (below_grown hb3 (some w.heap.size))
      have ho3 := OwnI.lt hO3
      clear hb3 htk hin hs2 hown
      obtain ⟨Ad, hA, hAd⟩ : ∃ A : Addr, (if cp = k then some (⟨g, 0, none⟩ : Addr) else some ⟨g, k, none⟩) = some A ∧ ∀ (w' : World), OwnI w' w1.heap.size (.slice (some ⟨g, 0, none⟩) i cp) i zs → ∀ t u, ((zs.drop k).map (Value.int .i64))[t]? = some u → w'.cell? (A.add t) = some u := by
        by_cases e : cp = k
        · refine ⟨⟨g, 0, none⟩, by simp [e], fun w' ho t u hu => ?_⟩
          have h0 : zs.drop k = [] := List.drop_eq_nil_of_le (by rw [HL.out]; omega)
          rw [h0] at hu
          simp at hu
        · refine ⟨⟨g, k, none⟩, by simp [e], fun w' ho t u hu => ?_⟩
          rw [List.getElem?_map, List.getElem?_drop] at hu
          obtain ⟨y, hy, rfl⟩ := Option.map_eq_some_iff.1 hu
          have hlt2 := (List.getElem?_eq_some_iff.1 hy).1
          rw [HL.out] at hlt2
          obtain ⟨b', off', y', hbe, _, hy', hcy⟩ := (OwnI.ints ho).at_ (show k + t < i by omega)
          injection hbe with hbe
          injection hbe with e1 e2
          subst e1; subst e2
          rw [hy] at hy'
          injection hy' with hy'
          subst hy'
          rw [Addr.add_lit]
          simpa using hcy
      have AF := Lib.hid hAd
      clear hAd
      have hkc2 : k ≤ cp := by omega
      go_wp2_with (first
        | (at_builtin; refine wpList_append_own _ rfl _ _ 24 rfl w2.heap.size 2 i0 (.int .i64 0) 1 8 Try.underlying24 hi0 hz0 hz1 hz2 rfl (by decide) _ _ _ rfl (hO3.alloc _) ⟨_, 0, none⟩ 1 1 [.int .i64 (i : Int)] rfl rfl (cell_one_new _ _ _) (ints_oneCell .i64 [(i : Int)]) (by unfold maxLen; omega) (by omega) (by simp; omega) ?_; intro v1 w4 hown1 hgrow1 _; obtain ⟨C4, p4, rfl, hO4⟩ := own_app hown1; have hown4 := ord_far hown3 ho3 hob.2 hgrow1; have hsz4 := hgrow1.size; simp only [World.size_alloc] at hsz4)
        | (at_builtin; refine wpList_append_own _ rfl _ _ 24 rfl w2.heap.size 2 i0 (.int .i64 0) 1 8 Try.underlying24 hi0 hz0 hz1 hz2 rfl (by decide) _ _ _ rfl hO4 Ad (i - k) (cp - k) ((zs.drop k).map (Value.int .i64)) rfl ?qd1 ?qd2 ?qd3 ?qd4 ?qd5 ?qd6 ?_))
      case qd1 => rw [List.length_map, List.length_drop, HL.out]; omega
      case qd2 => exact AF.out w4 hown4
      case qd3 => intro u hu; obtain ⟨x, _, rfl⟩ := List.mem_map.1 hu; rfl
      case qd4 => unfold maxLen; omega
      case qd5 => omega
      case qd6 => omega
      intro v2 w5 hown2 hgrow2 _
      have hgrow1' : (w3.alloc _).grownBy w4 (Value.slice C3 k p3).ownBlock := hgrow1
      rw [blk_own] at hgrow1'
      have hs4 := (hs3.alloc _).grown hgrow1' (fun g e => ⟨by have := (ho3 g e).1; omega, by have := (ho3 g e).1; omega⟩)
      have hG4 := World.grownBy.andThen (grown_alloc hG3 _) hgrow1' (fun j e => .inl (by have := (ho3 j e).1; omega))
      have ho4 := OwnI.lt hO4
      have hgrow2' : w4.grownBy w5 (Value.slice C4 (k + 1) p4).ownBlock := hgrow2
      rw [blk_own] at hgrow2'
      have hs5 := hs4.grown hgrow2' (fun g e => ⟨by have := (ho4 g e).1; omega, by have := (ho4 g e).1; omega⟩)
      have hG5 := World.grownBy.andThen hG4 hgrow2' (fun j e => .inl (by have := (ho4 j e).1; omega))
      have hown5 : w5.ownsRow w2.heap.size 2 1 v2 (i + 1) ((zs.take k ++ [(i : Int)] ++ zs.drop k).map (Value.int .i64)) := by
        have := hown2
        rw [show k + 1 + (i - k) = i + 1 by omega] at this
        simpa using this
      obtain ⟨g5, c5, rfl, hc5, hm5⟩ : ∃ g5 c5, v2 = .slice (some ⟨g5, 0, none⟩) (i + 1) c5 ∧ i + 1 ≤ c5 ∧ c5 ≤ maxLen := by
        rcases hown5.2 with ⟨_, h0⟩ | ⟨g, cap, cur, hv, hg, _, h1, h2, _⟩
        · omega
        · exact ⟨g, cap, hv, h1, h2⟩
      have hown6 : OwnI w5 w1.heap.size (.slice (some ⟨g5, 0, none⟩) (i + 1) c5) (i + 1) (zs.take k ++ [(i : Int)] ++ zs.drop k) := OwnI.low hown5 hsz2
      clear hgrow1 hgrow1' hgrow2 hgrow2' hown1 hown2 hown4 hO4 hO3 hown3 hs3 hs4 hG3 hG4 hown5 AF hA
      go_wp2
      go_roundw
      case rel => exact ⟨i + 1, by omega, by go_num, ⟨_, _, _, rfl, hown6, ⟨hc5, hm5⟩, plc_ins hP⟩, hs5.mono (by omega), hG5⟩
      case measure => simp [intOf]; omega
    · obtain rfl : i = m := by omega
      go_wp2
      go_ret
      exact ⟨_, _, zs, rfl, OwnI.low hown (by omega), ⟨hcp, hcm⟩, hP, hB.grown hg (by omega) (fun g e => by injection e with e; omega)⟩
end Go.Proofs.Ytkkipkmjhakknaa
