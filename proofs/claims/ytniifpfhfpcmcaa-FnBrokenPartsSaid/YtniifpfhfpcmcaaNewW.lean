/- Contracts: l00Put, fewestNew. -/
import Derived.Test.YtniifpfhfpcmcaaNewM
import Derived.Test.YtniifpfhfpcmcaaSort
import Derived.Test.YtniifpfhfpcmcaaSS
namespace Go.Proofs.Ytniifpfhfpcmcaa
open Go.RowKit
set_option linter.unusedVariables false
set_option linter.unusedSimpArgs false

def PutRel (zs : List Int) (n : Int) (k : Nat) (d : Bool) (os : List Int) : Prop :=
  (d = false ∧ os = zs.take k ∧ ∀ (j : Nat) (z : Int), j < k → zs[j]? = some z → z < n) ∨ (d = true ∧ os ++ zs.drop k = putS zs n)
theorem putRel_lt {zs : List Int} {n z : Int} {k : Nat} {os : List Int} (h : PutRel zs n k false os) (hz : zs[k]? = some z) (hlt : z < n) : PutRel zs n (k + 1) false (os ++ [z]) := by
  rcases h with ⟨_, rfl, h⟩ | ⟨h, _⟩
  · refine .inl ⟨rfl, by rw [List.take_add_one, hz]; rfl, fun j y hj hy => ?_⟩
    rcases Nat.lt_succ_iff_lt_or_eq.1 hj with h1 | rfl
    · exact h j y h1 hy
    · rw [hz] at hy; injection hy with hy; omega
  · cases h
theorem drop_at {zs : List Int} {z : Int} {k : Nat} (hz : zs[k]? = some z) : zs.drop k = z :: zs.drop (k + 1) := by
  obtain ⟨h, e⟩ := List.getElem?_eq_some_iff.1 hz
  rw [List.drop_eq_getElem_cons h, e]
theorem putRel_eq {zs : List Int} {n : Int} {k : Nat} {os : List Int} (h : PutRel zs n k false os) (hz : zs[k]? = some n) : PutRel zs n (k + 1) true (os ++ [n]) := by
  rcases h with ⟨_, rfl, h⟩ | ⟨h, _⟩
  · refine .inr ⟨rfl, ?_⟩
    rw [putS_skip k h, drop_at hz, putS, if_neg (by omega), if_pos rfl]
    simp
  · cases h
theorem putRel_gt {zs : List Int} {n z : Int} {k : Nat} {os : List Int} (h : PutRel zs n k false os) (hz : zs[k]? = some z) (hgt : n < z) : PutRel zs n (k + 1) true (os ++ [n] ++ [z]) := by
  rcases h with ⟨_, rfl, h⟩ | ⟨h, _⟩
  · refine .inr ⟨rfl, ?_⟩
    rw [putS_skip k h, drop_at hz, putS, if_neg (by omega), if_neg (by omega)]
    simp
  · cases h
theorem putRel_done {zs : List Int} {n z : Int} {k : Nat} {os : List Int} (h : PutRel zs n k true os) (hz : zs[k]? = some z) : PutRel zs n (k + 1) true (os ++ [z]) := by
  rcases h with ⟨h, _⟩ | ⟨_, h⟩
  · cases h
  · exact .inr ⟨rfl, by rw [← h, drop_at hz]; simp⟩
theorem putRel_end {zs : List Int} {n : Int} {k : Nat} {os : List Int} (hl : zs.length = k) (h : PutRel zs n k true os) : os = putS zs n := by
  rcases h with ⟨h, _⟩ | ⟨_, h⟩
  · cases h
  · rw [← h, List.drop_eq_nil_of_le (by omega), List.append_nil]
theorem putRel_last {zs : List Int} {n : Int} {k : Nat} {os : List Int} (hl : zs.length = k) (h : PutRel zs n k false os) : os ++ [n] = putS zs n := by
  rcases h with ⟨_, rfl, h⟩ | ⟨h, _⟩
  · rw [putS_skip k h, List.drop_eq_nil_of_le (by omega)]; rfl
  · cases h
set_option maxHeartbeats 1000000 in
theorem l00Put_any (A : Option Addr) (n c : Nat) (zs : List Int) (x : Int) (w : World) (h : Ints w A n zs) (hn : n ≤ 1000) : Calls Try.prog 58 #[.slice A n c, .int .i64 x] w fun e w' =>
    ∃ C q p, e = .returned (.slice C q p) ∧ OwnI w' w.heap.size (.slice C q p) q (putS zs x) ∧ Below w.heap.size w w' := by
  obtain ⟨i0, hi0, hz0, hz1, hz2⟩ := info_parts info_i64
  have HL := Lib.hid h.1
  go_enter Try.func58, Try.ntmps58
  go_wp2_with fail
  go_loopw [5, 6, 7] (fun v d i wr => ∃ k : Nat, k ≤ n ∧ i = .int .i64 k ∧ (∃ (b : Bool) (C : Option Addr) (q p : Nat) (os : List Int), d = .bool b ∧ v = .slice C q p ∧ q ≤ k + 1 ∧ OwnI wr w.heap.size (.slice C q p) q os ∧ PutRel zs x k b os) ∧ Below w.heap.size w wr) (fun _ _ i _ => n - (intOf i).toNat)
  case atStart =>
    refine ⟨0, Nat.zero_le _, rfl, ⟨false, _, _, _, [], rfl, rfl, by omega, ?_, .inl ⟨rfl, by simp, fun j z hj => by omega⟩⟩, ?_⟩
    · exact World.ownsRow_made _ _ _ (by simp) (by unfold maxLen; omega) (by simp)
    · exact (Below.refl _ _).alloc (by simp) _
  case round =>
    obtain ⟨k, hk, rfl, ⟨bd, C, q, p, os, rfl, rfl, hqk, hown, hrel2⟩, hB⟩ := hrel
    have HR := Lib.hid hrel2
    clear hrel2
    have hbs := hB.size
    by_cases hlt : k < n
    · obtain ⟨b, off, z, rfl, hblt, hz, hcz⟩ := (h.keep hB).at_ hlt
      have Hz := Lib.hid hz
      clear hz
      cases bd
      · rcases Int.lt_trichotomy z x with h1 | h1 | h1
        · have t1 : ¬ x ≤ z := by omega
          go_wp2_with (at_builtin; refine wpList_append_own _ rfl _ _ 22 rfl w.heap.size 2 i0 (.int .i64 0) 1 8 Try.underlying22 hi0 hz0 hz1 hz2 rfl (by decide) _ _ _ rfl (hown.alloc _) ⟨_, 0, none⟩ 1 1 [.int .i64 z] rfl rfl (cell_one_new _ _ _) (ints_oneCell .i64 [z]) (by unfold maxLen; omega) (by omega) (by simp; omega) ?_; intro v1 w1 hown1 hgrow1 _)
          go_roundw
          case rel =>
            obtain ⟨C', p', rfl, hown'⟩ := own_app hown1
            exact ⟨k + 1, by omega, by go_num, ⟨false, _, _, _, _, rfl, rfl, by omega, hown', putRel_lt HR.out Hz.out h1⟩, below_app hB hown hgrow1⟩
          case measure => simp [intOf]; omega
        · subst h1
          have t1 : z ≤ z := by omega
          go_wp2_with (at_builtin; refine wpList_append_own _ rfl _ _ 22 rfl w.heap.size 2 i0 (.int .i64 0) 1 8 Try.underlying22 hi0 hz0 hz1 hz2 rfl (by decide) _ _ _ rfl (hown.alloc _) ⟨_, 0, none⟩ 1 1 [.int .i64 z] rfl rfl (cell_one_new _ _ _) (ints_oneCell .i64 [z]) (by unfold maxLen; omega) (by omega) (by simp; omega) ?_; intro v1 w1 hown1 hgrow1 _)
          go_roundw
          case rel =>
            obtain ⟨C', p', rfl, hown'⟩ := own_app hown1
            exact ⟨k + 1, by omega, by go_num, ⟨true, _, _, _, _, rfl, rfl, by omega, hown', putRel_eq HR.out Hz.out⟩, below_app hB hown hgrow1⟩
          case measure => simp [intOf]; omega
        · have hqk2 : q ≤ k := by
            rcases HR.out with ⟨_, e, _⟩ | ⟨e, _⟩
            · rw [← OwnI.len hown, e]; simp; omega
            · cases e
          have t1 : x ≤ z := by omega
          go_upto_region 10 with (at_builtin; refine wpList_append_own _ rfl _ _ 22 rfl w.heap.size 2 i0 (.int .i64 0) 1 8 Try.underlying22 hi0 hz0 hz1 hz2 rfl (by decide) _ _ _ rfl (hown.alloc _) ⟨_, 0, none⟩ 1 1 [.int .i64 x] rfl rfl (cell_one_new _ _ _) (ints_oneCell .i64 [x]) (by unfold maxLen; omega) (by omega) (by simp; omega) ?_; intro v1 w1 hown1 hgrow1 _)
          obtain ⟨C', p', rfl, hown'⟩ := own_app hown1
          have hB1 := below_app hB hown hgrow1
          have hbs1 := hB1.size
          obtain ⟨b', off', z', e', _, hz', hcz'⟩ := (h.keep hB1).at_ hlt
          obtain ⟨rfl, rfl⟩ : b' = b ∧ off' = off := by simpa using e'.symm
          obtain rfl : z = z' := by rw [Hz.out] at hz'; injection hz'
          clear hown hown1 hgrow1 hB hbs e' hz' hcz
          have hown := hown'
          clear hown'
          generalize w1 = w2 at *
          go_wp2_with (at_builtin; refine wpList_append_own _ rfl _ _ 22 rfl w.heap.size 2 i0 (.int .i64 0) 1 8 Try.underlying22 hi0 hz0 hz1 hz2 rfl (by decide) _ _ _ rfl (hown.alloc _) ⟨_, 0, none⟩ 1 1 [.int .i64 z] rfl rfl (cell_one_new _ _ _) (ints_oneCell .i64 [z]) (by unfold maxLen; omega) (by omega) (by simp; omega) ?_; intro v1 w1 hown1 hgrow1 _)
          go_roundw
          case rel =>
            obtain ⟨C', p', rfl, hown'⟩ := own_app hown1
            exact ⟨k + 1, by omega, by go_num, ⟨true, _, _, _, _, rfl, rfl, by omega, hown', putRel_gt HR.out Hz.out h1⟩, below_app hB1 hown hgrow1⟩
          case measure => simp [intOf]; omega
      · go_wp2_with (at_builtin; refine wpList_append_own _ rfl _ _ 22 rfl w.heap.size 2 i0 (.int .i64 0) 1 8 Try.underlying22 hi0 hz0 hz1 hz2 rfl (by decide) _ _ _ rfl (hown.alloc _) ⟨_, 0, none⟩ 1 1 [.int .i64 z] rfl rfl (cell_one_new _ _ _) (ints_oneCell .i64 [z]) (by unfold maxLen; omega) (by omega) (by simp; omega) ?_; intro v1 w1 hown1 hgrow1 _)
        go_roundw
        case rel =>
          obtain ⟨C', p', rfl, hown'⟩ := own_app hown1
          exact ⟨k + 1, by omega, by go_num, ⟨true, _, _, _, _, rfl, rfl, by omega, hown', putRel_done HR.out Hz.out⟩, below_app hB hown hgrow1⟩
        case measure => simp [intOf]; omega
    · obtain rfl : k = n := by omega
      cases bd
      · go_wp2_with (at_builtin; refine wpList_append_own _ rfl _ _ 22 rfl w.heap.size 2 i0 (.int .i64 0) 1 8 Try.underlying22 hi0 hz0 hz1 hz2 rfl (by decide) _ _ _ rfl (hown.alloc _) ⟨_, 0, none⟩ 1 1 [.int .i64 x] rfl rfl (cell_one_new _ _ _) (ints_oneCell .i64 [x]) (by unfold maxLen; omega) (by omega) (by simp; omega) ?_; intro v1 w1 hown1 hgrow1 _)
        go_ret
        obtain ⟨C', p', rfl, hown'⟩ := own_app hown1
        rw [putRel_last HL.out HR.out] at hown'
        exact ⟨_, _, _, rfl, hown', below_app hB hown hgrow1⟩
      · go_wp2_with fail
        go_ret
        rw [putRel_end HL.out HR.out] at hown
        exact ⟨_, _, _, rfl, hown, hB⟩

theorem half_le {m j : Nat} : j < (m + 1) / 2 ↔ 2 * j < m := by omega
/-- The gaps of the first k parts, and the first j of the next one. -/
def newK (s : Nat) (ps : List (Int × Int)) (k : Nat) : List Int := (ps.take k).flatMap (gapsOf s)
theorem newK_succ {s : Nat} {ps : List (Int × Int)} {k : Nat} {p : Int × Int} (h : ps[k]? = some p) : newK s ps (k + 1) = newK s ps k ++ gapsOf s p := by
  unfold newK
  rw [List.take_add_one, h, List.flatMap_append]; simp
def gapsK (s : Nat) (f : Int) (j : Nat) : List Int := (List.range j).map fun j : Nat => (f + 2 * j) % s
theorem gapsK_succ {s : Nat} {f : Int} {j : Nat} : gapsK s f (j + 1) = gapsK s f j ++ [(f + 2 * j) % s] := by
  unfold gapsK; rw [List.range_succ, List.map_append]; rfl
theorem gapsK_all {s : Nat} {p : Int × Int} {m : Nat} (h : p.2 = m) : gapsK s p.1 ((m + 1) / 2) = gapsOf s p := by
  unfold gapsK gapsOf; rw [h, Int.toNat_natCast]
theorem newU_len {s : Nat} {zs : List Int} (h : Ris s zs) (hs : 1 ≤ s) : (newU s zs).length ≤ s := by
  have := (newL_ris h hs).len
  unfold newL at this
  rw [List.length_mergeSort] at this
  exact this
theorem newK_len {s : Nat} {ps : List (Int × Int)} {k : Nat} {p : Int × Int} {j : Nat} {m : Nat} (h : ps[k]? = some p) (hm : p.2 = m) (hj : j ≤ (m + 1) / 2) : (newK s ps k ++ gapsK s p.1 j).length ≤ (ps.flatMap (gapsOf s)).length := by
  have e : ps = ps.take k ++ p :: ps.drop (k + 1) := by
    have h1 := List.take_append_drop k ps
    obtain ⟨h2, h3⟩ := List.getElem?_eq_some_iff.1 h
    rw [List.drop_eq_getElem_cons h2, h3] at h1
    exact h1.symm
  have e2 : ps.flatMap (gapsOf s) = newK s ps k ++ gapsOf s p ++ (ps.drop (k + 1)).flatMap (gapsOf s) := by
    conv => lhs; rw [e]
    rw [List.flatMap_append, List.flatMap_cons, List.append_assoc]; rfl
  rw [e2, ← gapsK_all hm]
  simp only [List.length_append, gapsK, List.length_map, List.length_range]
  omega
set_option maxHeartbeats 2000000 in
theorem fewestNew_any (s : Nat) (A : Option Addr) (n c : Nat) (zs : List Int) (w : World) (h : Ints w A n zs) (hr : Ris s zs) (s0 : 3 ≤ s) (s1 : s ≤ 60) : Calls Try.prog 46 #[.int .i64 s, .slice A n c] w fun e w' =>
    ∃ C q p, e = .returned (.slice C q p) ∧ OwnI w' w.heap.size (.slice C q p) q (newL s zs) ∧ Below w.heap.size w w' := by
  obtain ⟨i0, hi0, hz0, hz1, hz2⟩ := info_parts info_i64
  have hul := newU_len hr (by omega)
  have HA := Lib.hid (fun k p => @partsL_at s zs hr (by omega) k p)
  have HU := Lib.hid (show newU s zs = (partsL s zs).flatMap (gapsOf s) from rfl)
  have HN := Lib.hid (show newL s zs = (newU s zs).mergeSort fun x y => decide (x ≤ y) from rfl)
  have hpl := partsL_len hr
  go_enter Try.func46, Try.ntmps46
  go_wp2_with fail
  have hB0 : Below w.heap.size w (w.alloc (.cells #[] 2)) := (Below.refl _ _).alloc (Nat.le_refl _) _
  have ho0 : OwnI (w.alloc (.cells #[] 2)) w.heap.size (.slice (some ⟨w.heap.size, 0, none⟩) 0 0) 0 [] := World.ownsRow_made _ _ _ (Nat.le_refl _) (by unfold maxLen; omega) (by simp)
  refine (partsOf_any _ _ _ _ _ _ (h.alloc _) hr s0 s1).mono ?_
  rintro e wp ⟨B, m, d, rfl, hP, hb1⟩
  have ho1 := OwnI.keep ho0 hb1
  have hB1 := belowT hb1 hB0
  have HL := Lib.hid hP.len
  have hml : m ≤ 60 := by rw [hP.len] at hpl; omega
  have hPb : ∀ g, blk (some (⟨w.heap.size, 0, none⟩ : Addr)) = some g → g < (w.alloc (.cells #[] 2)).heap.size := fun g e => by simp [blk] at e; simp; omega
  rw [HU.out] at hul
  generalize partsL s zs = ps at *
  clear ho0 hB0 hb1 hpl
  go_wp2_with fail
  have hW0 : w.heap.size < wp.heap.size := by have := (OwnI.lt ho1 _ rfl).2; simpa using this
  go_loopw [5, 14] (fun v i wr => ∃ k : Nat, k ≤ m ∧ i = .int .i64 k ∧ (∃ C q p, v = .slice C q p ∧ OwnI wr w.heap.size (.slice C q p) q (newK s ps k) ∧ ∀ g, blk C = some g → g = w.heap.size ∨ wp.heap.size ≤ g) ∧ wp.grownBy wr (some w.heap.size)) (fun _ i _ => m - (intOf i).toNat)
  case atStart => exact ⟨0, Nat.zero_le _, rfl, ⟨_, _, _, rfl, by simpa [newK] using ho1, fun g e => by simp [blk] at e; omega⟩, World.grownBy.refl _ _⟩
  case round =>
    clear ho1
    obtain ⟨k, hk, rfl, ⟨C, q, p, rfl, hown, hblk⟩, hg⟩ := hrel
    by_cases hlt : k < m
    · obtain ⟨b, gi, pt, rfl, hp, kc0, kc1, kc2, hbb, hgb, _⟩ := hP.at_ hlt
      rw [World.size_alloc] at hbb hgb
      have nb : ∀ o : Nat, some (⟨b, o, none⟩ : Addr).block ≠ some w.heap.size := fun o e => by injection e with e; simp only at e; omega
      have ng : ∀ o : Nat, some (⟨gi, o, none⟩ : Addr).block ≠ some w.heap.size := fun o e => by injection e with e; simp only at e; omega
      have hc0 := hg.cell kc0 (nb k)
      have hc1 := hg.cell kc1 (ng 0)
      have Kc0 := Lib.hid kc0
      have Kc1 := Lib.hid kc1
      have Kc2 := Lib.hid kc2
      obtain ⟨⟨p0, p1⟩, p2, p3⟩ := HA.out k pt hp
      obtain ⟨v, hv⟩ := Int.eq_ofNat_of_zero_le (show 0 ≤ pt.2 by omega)
      have Hv := Lib.hid hv
      have Hp := Lib.hid hp
      have HS := Lib.hid (newK_succ (s := s) hp)
      have hv60 : v ≤ 60 := by omega
      have hc2 := hg.cell kc2 (ng 1)
      rw [hv] at hc2
      have hwz := hg.size
      clear hp hv kc0 kc1 kc2
      go_wp2_with fail
      go_loopw [5, 8] (fun o i wx => ∃ j : Nat, j ≤ (v + 1) / 2 ∧ i = .int .i64 (2 * j) ∧ (∃ C q p, o = .slice C q p ∧ OwnI wx w.heap.size (.slice C q p) q (newK s ps k ++ gapsK s pt.1 j) ∧ ∀ g, blk C = some g → g = w.heap.size ∨ wp.heap.size ≤ g) ∧ wp.grownBy wx (some w.heap.size)) (fun _ i _ => 200 - (intOf i).toNat)
      case atStart => exact ⟨0, Nat.zero_le _, by simp, ⟨_, _, _, rfl, by simpa [gapsK] using hown, hblk⟩, hg⟩
      case round =>
        clear hown hblk hg hc0 hc1 hc2 hwz
        obtain ⟨j, hj, rfl, ⟨C, q, p, rfl, hown, hblk⟩, hg⟩ := hrel
        have hc0 := hg.cell Kc0.out (nb k)
        have hc1 := hg.cell Kc1.out (ng 0)
        have hc2 := hg.cell Kc2.out (ng 1)
        rw [Hv.out] at hc2
        have hql := OwnI.len hown
        have hq60 : q ≤ 60 := by
          have := newK_len (s := s) Hp.out Hv.out hj
          omega
        have hws := hg.size
        clear hql
        by_cases h2 : 2 * j < v
        · have t1 : (2 : Int) * (j : Int) < (v : Int) := by omega
          go_wp2_with (at_builtin; refine wpList_append_lies _ rfl _ _ 22 rfl (w.heap.size) 2 i0 (.int .i64 0) 1 8 Try.underlying22 hi0 hz0 hz1 hz2 rfl (by decide) _ _ _ rfl (hown.alloc _) ⟨_, 0, none⟩ 1 1 [.int .i64 ((pt.1 + 2 * (j : Int)) % s)] rfl rfl (cell_one_new _ _ _) (ints_oneCell .i64 [((pt.1 + 2 * (j : Int)) % s)]) (by decide) (by unfold maxLen; omega) (by omega) (by simp; omega) (wr.heap.size + 1) (by simp) ?_; intro gn cap w1 hown1 hgrow1 hat1 hlt1)
          go_roundw
          case rel =>
            obtain ⟨C', p', e9, hown'⟩ := own_app hown1
            obtain ⟨rfl, rfl⟩ : some ⟨gn, 0, none⟩ = C' ∧ cap = p' := by simpa using e9
            refine ⟨j + 1, by omega, congrArg (Value.int .i64) (by omega), ⟨_, _, _, rfl, ?_, fun g e => ?_⟩, ?_⟩
            · rw [gapsK_succ, ← List.append_assoc]; exact hown'
            · simp [blk] at e
              subst e
              rcases hat1 with h5 | h5
              · have h6 : (Value.slice C q p).ownBlock = some gn := h5
                rw [blk_own] at h6; exact hblk _ h6
              · right; omega
            · refine World.grownBy.andThen (World.grownBy.trans hg (World.grownBy_alloc _ _ _)) hgrow1 (fun jj e => ?_)
              have h6 : (Value.slice C q p).ownBlock = some jj := e
              rw [blk_own] at h6
              rcases hblk _ h6 with h5 | h5
              · right; rw [h5]
              · left; exact h5
          case measure => simp [intOf]; omega
        · have t1 : ¬ (2 : Int) * (j : Int) < (v : Int) := by omega
          obtain rfl : j = (v + 1) / 2 := by omega
          go_wp2_with fail
          go_roundw
          case rel => exact ⟨k + 1, by omega, by go_num, ⟨_, _, _, rfl, by rw [HS.out, ← gapsK_all Hv.out]; exact hown, hblk⟩, hg⟩
          case measure => simp [intOf]; omega
    · obtain rfl : k = m := by omega
      have hq60 : q ≤ 60 := by
        have h1 := OwnI.len hown
        have h2 : newK s ps k = ps.flatMap (gapsOf s) := by unfold newK; rw [List.take_of_length_le (by rw [HL.out]; omega)]
        rw [h2] at h1
        omega
      have HK := Lib.hid (show newK s ps k = ps.flatMap (gapsOf s) by unfold newK; rw [List.take_of_length_le (by rw [HL.out]; omega)])
      go_wp2_with fail
      refine (sort_own _ _ _ _ _ _ hown (by omega)).mono ?_
      rintro e w9 ⟨rfl, hown9, hg9⟩
      go_wp2_with fail
      go_ret
      refine ⟨_, _, _, rfl, ?_, ?_⟩
      · rw [HN.out, HU.out, ← HK.out]; exact hown9
      · have hb := hB1.grown hg hB1.size (fun g e => by injection e with e; omega)
        exact hb.grown hg9 hb.size (fun g e => by rw [blk_own] at e; have := (OwnI.lt hown g e).1; exact this)
end Go.Proofs.Ytniifpfhfpcmcaa
