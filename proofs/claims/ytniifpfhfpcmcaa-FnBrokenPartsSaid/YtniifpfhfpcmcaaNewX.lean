/- Contract: l16New; FewestNew: contracts and law; WorthMending: contracts and law. -/
import Derived.Test.YtniifpfhfpcmcaaNewW
namespace Go.Proofs.Ytniifpfhfpcmcaa
open Go.RowKit
set_option linter.unusedVariables false
set_option linter.unusedSimpArgs false

theorem newK_nodup {s : Nat} {ps : List (Int × Int)} {k : Nat} {p : Int × Int} {j m : Nat} (hn : (ps.flatMap (gapsOf s)).Nodup) (h : ps[k]? = some p) (hm : p.2 = m) (hj : j ≤ (m + 1) / 2) : (newK s ps k ++ gapsK s p.1 j).Nodup := by
  have e : ps = ps.take k ++ p :: ps.drop (k + 1) := by
    have h1 := List.take_append_drop k ps
    obtain ⟨h2, h3⟩ := List.getElem?_eq_some_iff.1 h
    rw [List.drop_eq_getElem_cons h2, h3] at h1
    exact h1.symm
  have e2 : ps.flatMap (gapsOf s) = newK s ps k ++ (gapsOf s p ++ (ps.drop (k + 1)).flatMap (gapsOf s)) := by
    conv => lhs; rw [e]
    rw [List.flatMap_append, List.flatMap_cons]; rfl
  rw [e2] at hn
  refine hn.sublist ?_
  refine List.Sublist.append (List.Sublist.refl _) ?_
  refine List.Sublist.trans ?_ (List.sublist_append_left _ _)
  rw [← gapsK_all hm]
  exact (List.range_sublist.2 hj).map _
theorem put_step {us os : List Int} {x : Int} (hp : os.Perm us) (hs : os.Pairwise (· < ·)) (hn : (us ++ [x]).Nodup) : (putS os x).Perm (us ++ [x]) ∧ (putS os x).Pairwise (· < ·) := by
  have hx : x ∉ os := fun h => by
    have h1 := hp.mem_iff.1 h
    rw [List.nodup_append] at hn
    exact hn.2.2 x h1 x (by simp) rfl
  obtain ⟨a, b⟩ := putS_new hs hx
  exact ⟨a.trans ((hp.cons x).trans (List.perm_append_singleton x us).symm), b⟩
set_option maxHeartbeats 2000000 in
theorem l16New_any (s : Nat) (A : Option Addr) (n c : Nat) (zs : List Int) (w : World) (h : Ints w A n zs) (hr : Ris s zs) (s0 : 3 ≤ s) (s1 : s ≤ 60) : Calls Try.prog 50 #[.int .i64 s, .slice A n c] w fun e w' =>
    ∃ C q p, e = .returned (.slice C q p) ∧ OwnI w' w.heap.size (.slice C q p) q (newL s zs) ∧ Below w.heap.size w w' := by
  have hul := newU_len hr (by omega)
  have hun := newU_nodup hr (by omega)
  have HA := Lib.hid (fun k p => @partsL_at s zs hr (by omega) k p)
  have HU := Lib.hid (show newU s zs = (partsL s zs).flatMap (gapsOf s) from rfl)
  have HN := Lib.hid (show newL s zs = (newU s zs).mergeSort fun x y => decide (x ≤ y) from rfl)
  have HR := Lib.hid (newL_ris hr (by omega))
  have hpl := partsL_len hr
  go_enter Try.func50, Try.ntmps50
  go_wp2_with fail
  have hB0 : Below w.heap.size w (w.alloc (.cells #[] 2)) := (Below.refl _ _).alloc (Nat.le_refl _) _
  have ho0 : OwnI (w.alloc (.cells #[] 2)) w.heap.size (.slice (some ⟨w.heap.size, 0, none⟩) 0 0) 0 [] := World.ownsRow_made _ _ _ (Nat.le_refl _) (by unfold maxLen; omega) (by simp)
  refine (l16Parts_any _ _ _ _ _ _ (h.alloc _) hr s0 s1).mono ?_
  rintro e wp ⟨B, m, d, rfl, hP, hb1⟩
  have ho1 := OwnI.keep ho0 hb1
  have hB1 := belowT hb1 hB0
  have HL := Lib.hid hP.len
  have hml : m ≤ 60 := by rw [hP.len] at hpl; omega
  rw [HU.out] at hul hun
  have HUn := Lib.hid hun
  generalize partsL s zs = ps at *
  clear ho0 hB0 hb1 hpl hun
  go_wp2_with fail
  go_loopw [5, 7] (fun v i wr => ∃ k : Nat, k ≤ m ∧ i = .int .i64 k ∧ (∃ C q p os, v = .slice C q p ∧ OwnI wr w.heap.size (.slice C q p) q os ∧ os.Perm (newK s ps k) ∧ os.Pairwise (· < ·)) ∧ Below wp.heap.size wp wr) (fun _ i _ => m - (intOf i).toNat)
  case atStart => exact ⟨0, Nat.zero_le _, rfl, ⟨_, _, _, [], rfl, ho1, by simp [newK], by simp⟩, Below.refl _ _⟩
  case round =>
    clear ho1
    obtain ⟨k, hk, rfl, ⟨C, q, p, os, rfl, hown, hperm, hpw⟩, hb⟩ := hrel
    by_cases hlt : k < m
    · obtain ⟨b, gi, pt, rfl, hp, kc0, kc1, kc2, _⟩ := hP.at_ hlt
      obtain ⟨⟨p0, p1⟩, p2, p3⟩ := HA.out k pt hp
      obtain ⟨v, hv⟩ := Int.eq_ofNat_of_zero_le (show 0 ≤ pt.2 by omega)
      have Hv := Lib.hid hv
      have Hp := Lib.hid hp
      have HS := Lib.hid (newK_succ (s := s) hp)
      have hv60 : v ≤ 60 := by omega
      rw [hv] at kc2
      have Kc0 := Lib.hid kc0
      have Kc1 := Lib.hid kc1
      have Kc2 := Lib.hid kc2
      have Hperm := Lib.hid hperm
      have Hpw := Lib.hid hpw
      clear hp hv kc0 kc1 kc2 hperm hpw
      go_wp2_with fail
      go_loopw [5, 8] (fun o i wx => ∃ j : Nat, j ≤ (v + 1) / 2 ∧ i = .int .i64 (2 * j) ∧ (∃ C q p os, o = .slice C q p ∧ OwnI wx w.heap.size (.slice C q p) q os ∧ os.Perm (newK s ps k ++ gapsK s pt.1 j) ∧ os.Pairwise (· < ·)) ∧ Below wp.heap.size wp wx) (fun _ i _ => 200 - (intOf i).toNat)
      case atStart => exact ⟨0, Nat.zero_le _, by simp, ⟨_, _, _, os, rfl, hown, by simpa [gapsK] using Hperm.out, Hpw.out⟩, hb⟩
      case round =>
        clear hown hb Hperm Hpw
        obtain ⟨j, hj, rfl, ⟨C, q, p, os, rfl, hown, hperm, hpw⟩, hb⟩ := hrel
        have hc0 := keepc hb Kc0.out
        have hc1 := keepc hb Kc1.out
        have hc2 := keepc hb Kc2.out
        have hq60 : q ≤ 60 := by
          have h1 := newK_len (s := s) Hp.out Hv.out hj
          have h2 := OwnI.len hown
          have h3 := hperm.length_eq
          omega
        have Hperm := Lib.hid hperm
        have Hpw := Lib.hid hpw
        have hws := hb.size
        clear hperm hpw
        by_cases h2 : 2 * j < v
        · have t1 : (2 : Int) * (j : Int) < (v : Int) := by omega
          have hnd := newK_nodup HUn.out Hp.out Hv.out (show j + 1 ≤ (v + 1) / 2 by omega)
          rw [gapsK_succ, ← List.append_assoc] at hnd
          obtain ⟨a1, a2⟩ := put_step Hperm.out Hpw.out hnd
          have A1 := Lib.hid a1
          have A2 := Lib.hid a2
          have hbw := hB1.size
          clear hnd a1 a2
          go_wp2_with fail
          refine (l00Put_any _ _ _ _ _ _ (OwnI.ints hown) (by omega)).mono ?_
          rintro e wz ⟨C2, q2, p2', rfl, ho2, hbz⟩
          go_wp2_with fail
          go_roundw
          case rel =>
            refine ⟨j + 1, by omega, congrArg (Value.int .i64) (by omega), ⟨_, _, _, _, rfl, World.ownsRow.mono ho2 (by omega), ?_, A2.out⟩, belowT hbz hb⟩
            rw [gapsK_succ, ← List.append_assoc]; exact A1.out
          case measure => simp [intOf]; omega
        · have t1 : ¬ (2 : Int) * (j : Int) < (v : Int) := by omega
          obtain rfl : j = (v + 1) / 2 := by omega
          go_wp2_with fail
          go_roundw
          case rel => exact ⟨k + 1, by omega, by go_num, ⟨_, _, _, _, rfl, hown, by rw [HS.out, ← gapsK_all Hv.out]; exact Hperm.out, Hpw.out⟩, hb⟩
          case measure => simp [intOf]; omega
    · obtain rfl : k = m := by omega
      have hK : newK s ps k = ps.flatMap (gapsOf s) := by unfold newK; rw [List.take_of_length_le (by rw [HL.out]; omega)]
      rw [hK] at hperm
      have ho : os = newL s zs := by
        refine rise_uniq ?_ hpw HR.out.pw
        rw [HN.out, HU.out]
        exact hperm.trans (List.mergeSort_perm _ _).symm
      have Ho := Lib.hid ho
      clear hK hperm hpw ho
      go_wp2_with fail
      go_ret
      exact ⟨_, _, _, rfl, by rw [← Ho.out]; exact hown, belowT hb hB1⟩
def newC (s : Int) (zs : List Int) : Int := if okBrok s zs then 0 else 1
def newV (s : Int) (zs : List Int) : List Int := if okBrok s zs then newL s.toNat zs else []
theorem newV_len (s : Int) (zs : List Int) : (newV s zs).length ≤ 60 := by
  unfold newV
  cases ho : okBrok s zs
  · simp
  · obtain ⟨t, rfl, t0, t1, hr⟩ := ris_ok ho
    have := (newL_ris hr (by omega)).len
    simp only [if_true, Int.toNat_natCast]
    omega
def NewPost (s : Int) (zs : List Int) (w : World) (e : Ending) (w' : World) : Prop :=
  ∃ B q d, e = .returned (.tuple #[.slice B q d, .int .i64 (newC s zs)]) ∧ OwnI w' w.heap.size (.slice B q d) q (newV s zs) ∧ Below w.heap.size w w'
theorem implFewest_any (s : Int) (A : Option Addr) (n c : Nat) (zs : List Int) (w : World) (h : Ints w A n zs) (hn : n ≤ 1048576) : Calls Try.prog 20 #[.int .i64 s, .slice A n c] w (NewPost s zs w) := by
  cases ho : okBrok s zs
  · have hv : newC s zs = 1 := by simp [newC, ho]
    have hv2 : newV s zs = [] := by simp [newV, ho]
    go_enter Try.func20, Try.ntmps20
    go_wp2_with (go_at_call 15; refine (implValidBroken_eq _ _ _ _ _ _ _ h hn ho).mono ?_; rintro e w' ⟨rfl, q1, rfl⟩)
    go_ret2
    exact ⟨none, 0, 0, by rw [hv]; rfl, by rw [hv2]; exact World.ownsRow_nil _ _ _ _, by (repeat' (first | (with_reducible exact Below.refl _ _) | (with_reducible assumption) | (with_reducible refine Below.drew ?_) | (with_reducible refine below_drewN ?_ _) | (with_reducible refine Below.setCell ?_ ?_ _) | (with_reducible refine Below.alloc ?_ ?_ _) | go_size))⟩
  obtain ⟨t, rfl, t0, t1, hr⟩ := ris_ok ho
  have hv : newC t zs = 0 := by simp [newC, ho]
  have hv2 : newV t zs = newL t zs := by simp [newV, ho]
  have HV := Lib.hid hv
  have HV2 := Lib.hid hv2
  clear hv hv2
  go_enter Try.func20, Try.ntmps20
  go_wp2_with (go_at_call 15; refine (implValidBroken_eq _ _ _ _ _ _ _ h hn ho).mono ?_; rintro e w' ⟨rfl, q1, rfl⟩)
  refine (fewestNew_any _ _ _ _ _ _ (h.drewN _) hr t0 t1).mono ?_
  rintro e w2 ⟨B, q, d, rfl, hP, hb2⟩
  go_wp2_with fail
  go_ret2
  exact ⟨_, _, _, by rw [HV.out]; rfl, by rw [HV2.out]; exact hP, belowT hb2 (drew_below _ _)⟩
theorem specFewest_any (s : Int) (A : Option Addr) (n c : Nat) (zs : List Int) (w : World) (h : Ints w A n zs) (hn : n ≤ 1048576) : Calls Try.prog 27 #[.int .i64 s, .slice A n c] w (NewPost s zs w) := by
  cases ho : okBrok s zs
  · have hv : newC s zs = 1 := by simp [newC, ho]
    have hv2 : newV s zs = [] := by simp [newV, ho]
    go_enter Try.func27, Try.ntmps27
    go_wp2_with (go_at_call 41; refine (l16Ok_eq _ _ _ _ _ _ _ h hn ho).mono ?_; rintro e w' ⟨rfl, q1, rfl⟩)
    go_ret2
    exact ⟨none, 0, 0, by rw [hv]; rfl, by rw [hv2]; exact World.ownsRow_nil _ _ _ _, by (repeat' (first | (with_reducible exact Below.refl _ _) | (with_reducible assumption) | (with_reducible refine Below.drew ?_) | (with_reducible refine below_drewN ?_ _) | (with_reducible refine Below.setCell ?_ ?_ _) | (with_reducible refine Below.alloc ?_ ?_ _) | go_size))⟩
  obtain ⟨t, rfl, t0, t1, hr⟩ := ris_ok ho
  have hv : newC t zs = 0 := by simp [newC, ho]
  have hv2 : newV t zs = newL t zs := by simp [newV, ho]
  have HV := Lib.hid hv
  have HV2 := Lib.hid hv2
  clear hv hv2
  go_enter Try.func27, Try.ntmps27
  go_wp2_with (go_at_call 41; refine (l16Ok_eq _ _ _ _ _ _ _ h hn ho).mono ?_; rintro e w' ⟨rfl, q1, rfl⟩)
  refine (l16New_any _ _ _ _ _ _ (h.drewN _) hr t0 t1).mono ?_
  rintro e w2 ⟨B, q, d, rfl, hP, hb2⟩
  go_wp2_with fail
  go_ret2
  exact ⟨_, _, _, by rw [HV.out]; rfl, by rw [HV2.out]; exact hP, belowT hb2 (drew_below _ _)⟩
theorem law_FnExactFewestNew (w : World) (s : Int) (_ : (Lit.int .i64 s).wf = true) (A : Option Addr) (n c : Nat) (zs : List Int) (h0 : IsInts .i64 w A n zs) : Calls Try.prog 11 #[.int .i64 s, .slice A n c] w fun e w' => e = .returned (.bool true) ∧ Below w.heap.size w w' := by
  have hm1 := h0.1
  unfold maxLen at hm1
  by_cases hbig : 1048576 < n
  · have h' : (1048576 : Int) < (n : Int) := by omega
    go_enter Try.func11, Try.ntmps11
    go_wp2
    go_ret
    exact ⟨rfl, Below.refl _ _⟩
  have hn : n ≤ 1048576 := by omega
  have h' : ¬ (1048576 : Int) < (n : Int) := by omega
  clear hbig
  have h := h0.ints
  have HL := Lib.hid (newV_len s zs)
  have hB := Below.refl w.heap.size w
  go_enter Try.func11, Try.ntmps11
  (go_wp2_with fail; refine (toInt64S_any _ _ _ _ _ (Ints.keep h hB) hn).mono ?_; rintro e w' ⟨rfl, ha, hb⟩; have hl := OwnI.lt ha _ rfl; (have hz := hb.size; (try replace ha := OwnI.keep ha hb); (try replace hc := OwnI.keep hc hb); (try replace hx := OwnI.keep hx hb); (try replace hy := OwnI.keep hy hb); (try replace hs := OwnI.keep hs hb); (try replace hg := OwnI.keep hg hb); (try replace hd := OwnI.keep hd hb); replace hB := belowT hb hB; clear hb))
  go_wp2_with fail
  refine (specFewest_any _ _ _ _ _ _ (OwnI.ints ha) hn).mono ?_
  rintro e w' ⟨C, q, p, rfl, hs, hb⟩
  have hq' : q ≤ 60 := by rw [← OwnI.len hs]; exact HL.out
  have hq : q ≤ 1048576 := by omega
  have s1 := fun g hg => (OwnI.lt hs g hg).2
  (have hz := hb.size; (try replace ha := OwnI.keep ha hb); (try replace hc := OwnI.keep hc hb); (try replace hx := OwnI.keep hx hb); (try replace hy := OwnI.keep hy hb); (try replace hs := OwnI.keep hs hb); (try replace hg := OwnI.keep hg hb); (try replace hd := OwnI.keep hd hb); replace hB := belowT hb hB; clear hb)
  clear ha
  (go_wp2_with fail; refine (toInt64S_any _ _ _ _ _ (Ints.keep h hB) hn).mono ?_; rintro e w' ⟨rfl, hx, hb⟩; have hl := OwnI.lt hx _ rfl; (have hz := hb.size; (try replace ha := OwnI.keep ha hb); (try replace hc := OwnI.keep hc hb); (try replace hx := OwnI.keep hx hb); (try replace hy := OwnI.keep hy hb); (try replace hs := OwnI.keep hs hb); (try replace hg := OwnI.keep hg hb); (try replace hd := OwnI.keep hd hb); replace hB := belowT hb hB; clear hb))
  go_wp2_with fail
  refine (implFewest_any _ _ _ _ _ _ (OwnI.ints hx) hn).mono ?_
  rintro e w' ⟨D, r, t, rfl, hg, hb⟩
  obtain rfl : r = q := (OwnI.len hg).symm.trans (OwnI.len hs)
  have g1 := fun g h => (OwnI.lt hg g h).1
  (have hz := hb.size; (try replace ha := OwnI.keep ha hb); (try replace hc := OwnI.keep hc hb); (try replace hx := OwnI.keep hx hb); (try replace hy := OwnI.keep hy hb); (try replace hs := OwnI.keep hs hb); (try replace hg := OwnI.keep hg hb); (try replace hd := OwnI.keep hd hb); replace hB := belowT hb hB; clear hb)
  (go_wp2_with fail; refine (eqI_same _ _ _ _ _ _ _ (OwnI.ints hg) (OwnI.ints hs) hq).mono ?_; rintro e w' ⟨rfl, hb⟩; (have hz := hb.size; (try replace ha := OwnI.keep ha hb); (try replace hc := OwnI.keep hc hb); (try replace hx := OwnI.keep hx hb); (try replace hy := OwnI.keep hy hb); (try replace hs := OwnI.keep hs hb); (try replace hg := OwnI.keep hg hb); (try replace hd := OwnI.keep hd hb); replace hB := belowT hb hB; clear hb))
  (go_wp2_with fail; refine (toInt64S_any _ _ _ _ _ (Ints.keep h hB) hn).mono ?_; rintro e w' ⟨rfl, hd, hb⟩; have hl := OwnI.lt hd _ rfl; (have hz := hb.size; (try replace ha := OwnI.keep ha hb); (try replace hc := OwnI.keep hc hb); (try replace hx := OwnI.keep hx hb); (try replace hy := OwnI.keep hy hb); (try replace hs := OwnI.keep hs hb); (try replace hg := OwnI.keep hg hb); (try replace hd := OwnI.keep hd hb); replace hB := belowT hb hB; clear hb))
  (go_wp2_with fail; refine (eqI_same _ _ _ _ _ _ _ (OwnI.ints hx) (OwnI.ints hd) hn).mono ?_; rintro e w' ⟨rfl, hb⟩; (have hz := hb.size; (try replace ha := OwnI.keep ha hb); (try replace hc := OwnI.keep hc hb); (try replace hx := OwnI.keep hx hb); (try replace hy := OwnI.keep hy hb); (try replace hs := OwnI.keep hs hb); (try replace hg := OwnI.keep hg hb); (try replace hd := OwnI.keep hd hb); replace hB := belowT hb hB; clear hb))
  clear hd
  (go_wp2_with fail; refine (markInt64S_any _ _ _ _ _ _ _ hx hn (by omega) (by omega)).mono ?_; rintro e w' ⟨rfl, hx, hgw⟩; (have hz := hgw.size; (try replace hs := OwnI.grown hs hgw (by (intro b e1 e2; rw [blk_own] at e1; (try (have := s1 b e2)); (try (have := s1 b e1)); (try (have := g1 b e1)); (try (have := g1 b e2)); (try simp only [blk, Option.map_some, Option.some.injEq] at e1); (try simp only [blk, Option.map_some, Option.some.injEq] at e2); omega))); (try replace hg := OwnI.grown hg hgw (by (intro b e1 e2; rw [blk_own] at e1; (try (have := s1 b e2)); (try (have := s1 b e1)); (try (have := g1 b e1)); (try (have := g1 b e2)); (try simp only [blk, Option.map_some, Option.some.injEq] at e1); (try simp only [blk, Option.map_some, Option.some.injEq] at e2); omega))); (try replace hx := OwnI.grown hx hgw (by (intro b e1 e2; rw [blk_own] at e1; (try (have := s1 b e2)); (try (have := s1 b e1)); (try (have := g1 b e1)); (try (have := g1 b e2)); (try simp only [blk, Option.map_some, Option.some.injEq] at e1); (try simp only [blk, Option.map_some, Option.some.injEq] at e2); omega))); (try replace hy := OwnI.grown hy hgw (by (intro b e1 e2; rw [blk_own] at e1; (try (have := s1 b e2)); (try (have := s1 b e1)); (try (have := g1 b e1)); (try (have := g1 b e2)); (try simp only [blk, Option.map_some, Option.some.injEq] at e1); (try simp only [blk, Option.map_some, Option.some.injEq] at e2); omega))); replace hB := Below.grown hB hgw hB.size (by (intro b e1; rw [blk_own] at e1; (try (have := g1 b e1)); (try simp only [blk, Option.map_some, Option.some.injEq] at e1); omega)); clear hgw))
  (go_wp2_with fail; refine (eqI_same _ _ _ _ _ _ _ (OwnI.ints hg) (OwnI.ints hs) hq).mono ?_; rintro e w' ⟨rfl, hb⟩; (have hz := hb.size; (try replace ha := OwnI.keep ha hb); (try replace hc := OwnI.keep hc hb); (try replace hx := OwnI.keep hx hb); (try replace hy := OwnI.keep hy hb); (try replace hs := OwnI.keep hs hb); (try replace hg := OwnI.keep hg hb); (try replace hd := OwnI.keep hd hb); replace hB := belowT hb hB; clear hb))
  clear hx
  (go_wp2_with fail; refine (markInt64S_any _ _ _ _ _ _ _ hg hq (by omega) (by omega)).mono ?_; rintro e w' ⟨rfl, hg, hgw⟩; (have hz := hgw.size; (try replace hs := OwnI.grown hs hgw (by (intro b e1 e2; rw [blk_own] at e1; (try (have := s1 b e2)); (try (have := s1 b e1)); (try (have := g1 b e1)); (try (have := g1 b e2)); (try simp only [blk, Option.map_some, Option.some.injEq] at e1); (try simp only [blk, Option.map_some, Option.some.injEq] at e2); omega))); (try replace hg := OwnI.grown hg hgw (by (intro b e1 e2; rw [blk_own] at e1; (try (have := s1 b e2)); (try (have := s1 b e1)); (try (have := g1 b e1)); (try (have := g1 b e2)); (try simp only [blk, Option.map_some, Option.some.injEq] at e1); (try simp only [blk, Option.map_some, Option.some.injEq] at e2); omega))); (try replace hx := OwnI.grown hx hgw (by (intro b e1 e2; rw [blk_own] at e1; (try (have := s1 b e2)); (try (have := s1 b e1)); (try (have := g1 b e1)); (try (have := g1 b e2)); (try simp only [blk, Option.map_some, Option.some.injEq] at e1); (try simp only [blk, Option.map_some, Option.some.injEq] at e2); omega))); (try replace hy := OwnI.grown hy hgw (by (intro b e1 e2; rw [blk_own] at e1; (try (have := s1 b e2)); (try (have := s1 b e1)); (try (have := g1 b e1)); (try (have := g1 b e2)); (try simp only [blk, Option.map_some, Option.some.injEq] at e1); (try simp only [blk, Option.map_some, Option.some.injEq] at e2); omega))); replace hB := Below.grown hB hgw hB.size (by (intro b e1; rw [blk_own] at e1; (try (have := g1 b e1)); (try simp only [blk, Option.map_some, Option.some.injEq] at e1); omega)); clear hgw))
  (go_wp2_with fail; refine (heldInt64S_ramp _ _ _ _ _ (OwnI.ints hg) hq (by omega) (by omega)).mono ?_; rintro e w' ⟨rfl, rfl⟩)
  (go_wp2_with fail; refine (toInt64S_any _ _ _ _ _ (Ints.keep h hB) hn).mono ?_; rintro e w' ⟨rfl, hx, hb⟩; have hl := OwnI.lt hx _ rfl; (have hz := hb.size; (try replace ha := OwnI.keep ha hb); (try replace hc := OwnI.keep hc hb); (try replace hx := OwnI.keep hx hb); (try replace hy := OwnI.keep hy hb); (try replace hs := OwnI.keep hs hb); (try replace hg := OwnI.keep hg hb); (try replace hd := OwnI.keep hd hb); replace hB := belowT hb hB; clear hb))
  go_wp2_with fail
  refine (implFewest_any _ _ _ _ _ _ (OwnI.ints hx) hn).mono ?_
  rintro e w' ⟨D2, r2, t2, rfl, hd, hb⟩
  obtain rfl : r2 = r := (OwnI.len hd).symm.trans (OwnI.len hs)
  (have hz := hb.size; (try replace ha := OwnI.keep ha hb); (try replace hc := OwnI.keep hc hb); (try replace hx := OwnI.keep hx hb); (try replace hy := OwnI.keep hy hb); (try replace hs := OwnI.keep hs hb); (try replace hg := OwnI.keep hg hb); (try replace hd := OwnI.keep hd hb); replace hB := belowT hb hB; clear hb)
  (go_wp2_with fail; refine (eqI_same _ _ _ _ _ _ _ (OwnI.ints hd) (OwnI.ints hs) hq).mono ?_; rintro e w' ⟨rfl, hb⟩; (have hz := hb.size; (try replace ha := OwnI.keep ha hb); (try replace hc := OwnI.keep hc hb); (try replace hx := OwnI.keep hx hb); (try replace hy := OwnI.keep hy hb); (try replace hs := OwnI.keep hs hb); (try replace hg := OwnI.keep hg hb); (try replace hd := OwnI.keep hd hb); replace hB := belowT hb hB; clear hb))
  (go_wp2_with fail; refine (heldInt64S_ramp _ _ _ _ _ (OwnI.ints hg) hq (by omega) (by omega)).mono ?_; rintro e w' ⟨rfl, rfl⟩)
  go_wp2
  go_ret
  exact ⟨rfl, hB⟩
end Go.Proofs.Ytniifpfhfpcmcaa
