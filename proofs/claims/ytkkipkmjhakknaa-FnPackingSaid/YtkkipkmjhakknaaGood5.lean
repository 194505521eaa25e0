/- SharesOf: contracts. -/
import Derived.Test.YtkkipkmjhakknaaGood4
namespace Go.Proofs.Ytkkipkmjhakknaa
open Go.RowKit
set_option linter.unusedVariables false
set_option linter.unusedSimpArgs false

def frObj : Obj := .cells #[.int .i64 0, .int .i64 0] 52
/-- Both results' own blocks, in every later world. -/
theorem res2_facts {w : World} (w2 : World) (hb2 : Below ((w.alloc (.cells #[.int .i64 0, .int .i64 0] 52)).alloc (.cells #[.int .i64 0, .int .i64 0] 52)).heap.size ((w.alloc (.cells #[.int .i64 0, .int .i64 0] 52)).alloc (.cells #[.int .i64 0, .int .i64 0] 52)) w2) :
    (w2.cell? ⟨w.heap.size, 0, none⟩ = some (.int .i64 0) ∧ w2.cell? ⟨w.heap.size, 1, none⟩ = some (.int .i64 0) ∧ w2.frozen? ⟨w.heap.size, 0, none⟩ = false ∧ w2.frozen? ⟨w.heap.size, 1, none⟩ = false) ∧
    (w2.cell? ⟨w.heap.size + 1, 0, none⟩ = some (.int .i64 0) ∧ w2.cell? ⟨w.heap.size + 1, 1, none⟩ = some (.int .i64 0) ∧ w2.frozen? ⟨w.heap.size + 1, 0, none⟩ = false ∧ w2.frozen? ⟨w.heap.size + 1, 1, none⟩ = false) ∧ Below w.heap.size w w2 := by
  obtain ⟨hc, hf⟩ := bcell hb2
  refine ⟨⟨by rw [hc _ _ (by simp; omega)]; go_cell, by rw [hc _ _ (by simp; omega)]; go_cell, by rw [hf _ _ (by simp; omega)]; simp, by rw [hf _ _ (by simp; omega)]; simp⟩, ⟨by rw [hc _ _ (by simp)]; go_cell, by rw [hc _ _ (by simp)]; go_cell, by rw [hf _ _ (by simp)]; simp, by rw [hf _ _ (by simp)]; simp⟩, ?_⟩
  exact (((Below.refl _ _).alloc (Nat.le_refl _) _).alloc (by simp) _).trans (hb2.mono (by simp; omega))

def sharesV (cs : List R2) (l r : Int) : (Int × Int) × (Int × Int) × Int :=
  if okGs cs then (if inB l 0 1000 && inB r 0 1000 then (if r ≤ l then ((0, 0), (0, 0), 6) else (if 0 < momentI r cs ∨ momentI l cs < 0 then ((0, 0), (0, 0), 10) else
    ((lowN (-momentI r cs).toNat (r - l).toNat, lowD (-momentI r cs).toNat (r - l).toNat), (lowN (momentI l cs).toNat (r - l).toNat, lowD (momentI l cs).toNat (r - l).toNat), 0))) else ((0, 0), (0, 0), 2)) else ((0, 0), (0, 0), 1)

theorem implSharesOf_any (A : Option Addr) (n c : Nat) (cs : List R2) (l r : Int) (w : World) (h : Recs w A n cs) (hn : n ≤ 1048576) : Calls Try.prog 40 #[.slice A n c, .int .i64 l, .int .i64 r] w fun e w' => e = .returned (.tuple #[.agg #[.int .i64 (sharesV cs l r).1.1, .int .i64 (sharesV cs l r).1.2], .agg #[.int .i64 (sharesV cs l r).2.1.1, .int .i64 (sharesV cs l r).2.1.2], .int .i64 (sharesV cs l r).2.2]) ∧ Below w.heap.size w w' := by
  have hbz := build_zero
  cases ho : okGs cs
  · have hv : sharesV cs l r = ((0, 0), (0, 0), 1) := by simp [sharesV, ho]
    rw [hv]
    clear hv
    go_enter Try.func40, Try.ntmps40
    go_wp2_with fail
    refine (validGoods_eq _ _ _ _ false _ ((h.alloc _).alloc _) hn ho).mono ?_
    rintro e w1 ⟨rfl, hb1⟩
    obtain ⟨⟨hq0, hq1, hr0, hr1⟩, ⟨hp0, hp1, hu0, hu1⟩, hB⟩ := res2_facts _ hb1
    go_wp2
    refine bodyPost_ret (by simp [results, Try.results40, go_sem, hq0, hq1, hp0, hp1]; try rfl) rfl ?_
    exact ⟨rfl, by (repeat' (first | (with_reducible exact Below.refl _ _) | (with_reducible assumption) | (with_reducible refine Below.drew ?_) | (with_reducible refine below_drewN ?_ _) | (with_reducible refine Below.setCell ?_ ?_ _) | (with_reducible refine Below.alloc ?_ ?_ _) | go_size))⟩
  cases g2 : inB l 0 1000
  · have hv : sharesV cs l r = ((0, 0), (0, 0), 2) := by simp [sharesV, ho, g2]
    rw [hv]
    clear hv
    go_enter Try.func40, Try.ntmps40
    go_wp2_with fail
    refine (validGoods_eq _ _ _ _ true _ ((h.alloc _).alloc _) hn ho).mono ?_
    rintro e w1 ⟨rfl, hb1⟩
    obtain ⟨⟨hq0, hq1, hr0, hr1⟩, ⟨hp0, hp1, hu0, hu1⟩, hB⟩ := res2_facts _ hb1
    go_wp2_with (go_at_call 53; refine (isPlaceG_any _ _).mono ?_; rintro e w' ⟨rfl, rfl⟩)
    refine bodyPost_ret (by simp [results, Try.results40, go_sem, hq0, hq1, hp0, hp1]; try rfl) rfl ?_
    exact ⟨rfl, by (repeat' (first | (with_reducible exact Below.refl _ _) | (with_reducible assumption) | (with_reducible refine Below.drew ?_) | (with_reducible refine below_drewN ?_ _) | (with_reducible refine Below.setCell ?_ ?_ _) | (with_reducible refine Below.alloc ?_ ?_ _) | go_size))⟩
  cases g3 : inB r 0 1000
  · have hv : sharesV cs l r = ((0, 0), (0, 0), 2) := by simp [sharesV, ho, g2, g3]
    rw [hv]
    clear hv
    go_enter Try.func40, Try.ntmps40
    go_wp2_with fail
    refine (validGoods_eq _ _ _ _ true _ ((h.alloc _).alloc _) hn ho).mono ?_
    rintro e w1 ⟨rfl, hb1⟩
    obtain ⟨⟨hq0, hq1, hr0, hr1⟩, ⟨hp0, hp1, hu0, hu1⟩, hB⟩ := res2_facts _ hb1
    go_wp2_with (go_at_call 53; refine (isPlaceG_any _ _).mono ?_; rintro e w' ⟨rfl, rfl⟩)
    refine bodyPost_ret (by simp [results, Try.results40, go_sem, hq0, hq1, hp0, hp1]; try rfl) rfl ?_
    exact ⟨rfl, by (repeat' (first | (with_reducible exact Below.refl _ _) | (with_reducible assumption) | (with_reducible refine Below.drew ?_) | (with_reducible refine below_drewN ?_ _) | (with_reducible refine Below.setCell ?_ ?_ _) | (with_reducible refine Below.alloc ?_ ?_ _) | go_size))⟩
  have il := (inB_iff _ _ _).1 g2
  have ir := (inB_iff _ _ _).1 g3
  by_cases hlr : r ≤ l
  · have hv : sharesV cs l r = ((0, 0), (0, 0), 6) := by simp [sharesV, ho, g2, g3, hlr]
    rw [hv]
    clear hv
    go_enter Try.func40, Try.ntmps40
    go_wp2_with fail
    refine (validGoods_eq _ _ _ _ true _ ((h.alloc _).alloc _) hn ho).mono ?_
    rintro e w1 ⟨rfl, hb1⟩
    obtain ⟨⟨hq0, hq1, hr0, hr1⟩, ⟨hp0, hp1, hu0, hu1⟩, hB⟩ := res2_facts _ hb1
    go_wp2_with (go_at_call 53; refine (isPlaceG_any _ _).mono ?_; rintro e w' ⟨rfl, rfl⟩)
    refine bodyPost_ret (by simp [results, Try.results40, go_sem, hq0, hq1, hp0, hp1]; try rfl) rfl ?_
    exact ⟨rfl, by (repeat' (first | (with_reducible exact Below.refl _ _) | (with_reducible assumption) | (with_reducible refine Below.drew ?_) | (with_reducible refine below_drewN ?_ _) | (with_reducible refine Below.setCell ?_ ?_ _) | (with_reducible refine Below.alloc ?_ ?_ _) | go_size))⟩
  have hmr := momentAll_bd ho ir
  have hml := momentAll_bd ho il
  by_cases hx : 0 < momentI r cs ∨ momentI l cs < 0
  · have hv : sharesV cs l r = ((0, 0), (0, 0), 10) := by
      unfold sharesV
      rw [if_pos ho, if_pos (by rw [g2, g3]; rfl), if_neg hlr, if_pos hx]
    rw [hv]
    clear hv
    generalize hm1 : momentI r cs = mr at *
    generalize hm2 : momentI l cs = ml at *
    have Hm1 := Lib.hid hm1
    have Hm2 := Lib.hid hm2
    clear hm1 hm2
    by_cases hx1 : -mr < 0
    · clear hx
      go_enter Try.func40, Try.ntmps40
      go_wp2_with fail
      refine (validGoods_eq _ _ _ _ true _ ((h.alloc _).alloc _) hn ho).mono ?_
      rintro e w1 ⟨rfl, hb1⟩
      obtain ⟨⟨hq0, hq1, hr0, hr1⟩, ⟨hp0, hp1, hu0, hu1⟩, hB⟩ := res2_facts _ hb1
      go_wp2_with (go_at_call 53; refine (isPlaceG_any _ _).mono ?_; rintro e w' ⟨rfl, rfl⟩)
      refine (momentOf_eq _ _ _ _ _ _ _ (((h.alloc _).alloc _).keep hb1) hn ho ir Hm1.out).mono ?_
      rintro e w2 ⟨rfl, hb2⟩
      have hb12 := belowT hb2 hb1
      clear hq0 hq1 hr0 hr1 hp0 hp1 hu0 hu1 hB
      go_wp2_with fail
      refine (momentOf_eq _ _ _ _ _ _ _ (((h.alloc _).alloc _).keep hb12) hn ho il Hm2.out).mono ?_
      rintro e w3 ⟨rfl, hb3⟩
      have hb13 := belowT hb3 hb12
      obtain ⟨⟨hq0, hq1, hr0, hr1⟩, ⟨hp0, hp1, hu0, hu1⟩, hB⟩ := res2_facts _ hb13
      go_wp2
      refine bodyPost_ret (by simp [results, Try.results40, go_sem, hq0, hq1, hp0, hp1]; try rfl) rfl ?_
      exact ⟨rfl, by (repeat' (first | (with_reducible exact Below.refl _ _) | (with_reducible assumption) | (with_reducible refine Below.drew ?_) | (with_reducible refine below_drewN ?_ _) | (with_reducible refine Below.setCell ?_ ?_ _) | (with_reducible refine Below.alloc ?_ ?_ _) | go_size))⟩
    · have hx2 : ml < 0 := by omega
      clear hx
      go_enter Try.func40, Try.ntmps40
      go_wp2_with fail
      refine (validGoods_eq _ _ _ _ true _ ((h.alloc _).alloc _) hn ho).mono ?_
      rintro e w1 ⟨rfl, hb1⟩
      obtain ⟨⟨hq0, hq1, hr0, hr1⟩, ⟨hp0, hp1, hu0, hu1⟩, hB⟩ := res2_facts _ hb1
      go_wp2_with (go_at_call 53; refine (isPlaceG_any _ _).mono ?_; rintro e w' ⟨rfl, rfl⟩)
      refine (momentOf_eq _ _ _ _ _ _ _ (((h.alloc _).alloc _).keep hb1) hn ho ir Hm1.out).mono ?_
      rintro e w2 ⟨rfl, hb2⟩
      have hb12 := belowT hb2 hb1
      clear hq0 hq1 hr0 hr1 hp0 hp1 hu0 hu1 hB
      go_wp2_with fail
      refine (momentOf_eq _ _ _ _ _ _ _ (((h.alloc _).alloc _).keep hb12) hn ho il Hm2.out).mono ?_
      rintro e w3 ⟨rfl, hb3⟩
      have hb13 := belowT hb3 hb12
      obtain ⟨⟨hq0, hq1, hr0, hr1⟩, ⟨hp0, hp1, hu0, hu1⟩, hB⟩ := res2_facts _ hb13
      go_wp2
      refine bodyPost_ret (by simp [results, Try.results40, go_sem, hq0, hq1, hp0, hp1]; try rfl) rfl ?_
      exact ⟨rfl, by (repeat' (first | (with_reducible exact Below.refl _ _) | (with_reducible assumption) | (with_reducible refine Below.drew ?_) | (with_reducible refine below_drewN ?_ _) | (with_reducible refine Below.setCell ?_ ?_ _) | (with_reducible refine Below.alloc ?_ ?_ _) | go_size))⟩
  have hv : sharesV cs l r = ((lowN (-momentI r cs).toNat (r - l).toNat, lowD (-momentI r cs).toNat (r - l).toNat), (lowN (momentI l cs).toNat (r - l).toNat, lowD (momentI l cs).toNat (r - l).toNat), 0) := by
    unfold sharesV
    rw [if_pos ho, if_pos (by rw [g2, g3]; rfl), if_neg hlr, if_neg hx]
  rw [hv]
  clear hv
  generalize hm1 : momentI r cs = mr at *
  generalize hm2 : momentI l cs = ml at *
  have Hm1 := Lib.hid hm1
  have Hm2 := Lib.hid hm2
  have hx1 : ¬ -mr < 0 := by omega
  have hx2 : ¬ ml < 0 := by omega
  clear hm1 hm2 hx
  go_enter Try.func40, Try.ntmps40
  go_wp2_with fail
  refine (validGoods_eq _ _ _ _ true _ ((h.alloc _).alloc _) hn ho).mono ?_
  rintro e w1 ⟨rfl, hb1⟩
  go_wp2_with (go_at_call 53; refine (isPlaceG_any _ _).mono ?_; rintro e w' ⟨rfl, rfl⟩)
  refine (momentOf_eq _ _ _ _ _ _ _ (((h.alloc _).alloc _).keep hb1) hn ho ir Hm1.out).mono ?_
  rintro e w2 ⟨rfl, hb2⟩
  have hb12 := belowT hb2 hb1
  go_wp2_with fail
  refine (momentOf_eq _ _ _ _ _ _ _ (((h.alloc _).alloc _).keep hb12) hn ho il Hm2.out).mono ?_
  rintro e w3 ⟨rfl, hb3⟩
  have hb13 := belowT hb3 hb12
  go_wp2_with fail
  refine (lowest_i _ _ _ (by omega) (by omega) (by omega) (by omega)).mono ?_
  rintro e w4 ⟨rfl, hb4⟩
  have hb14 := belowT hb4 hb13
  go_wp2_with fail
  refine (lowest_i _ _ _ (by omega) (by omega) (by omega) (by omega)).mono ?_
  rintro e w5 ⟨rfl, hb5⟩
  have hb15 := belowT hb5 hb14
  obtain ⟨⟨hq0, hq1, hr0, hr1⟩, ⟨hp0, hp1, hu0, hu1⟩, hB⟩ := res2_facts _ hb15
  go_wp2
  refine bodyPost_ret (by simp [results, Try.results40, go_sem, hq0, hq1, hp0, hp1]; try rfl) rfl ?_
  exact ⟨rfl, by (repeat' (first | (with_reducible exact Below.refl _ _) | (with_reducible assumption) | (with_reducible refine Below.drew ?_) | (with_reducible refine below_drewN ?_ _) | (with_reducible refine Below.setCell ?_ ?_ _) | (with_reducible refine Below.alloc ?_ ?_ _) | go_size))⟩
end Go.Proofs.Ytkkipkmjhakknaa
