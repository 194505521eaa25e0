/- slices.Sort at int64: the shelf's contract, laid (printed by the shelf's own command, turned to plain words by a program of mine). -/
import Derived.Test.YtniifpfhfpcmcaaPartX
import Derived.Ground.SlgmProg
import Derived.Shelf.SortM.Plain
import Derived.Shelf.SortM.SortNone
import Derived.Lib.OwnBridge
namespace Go.Proofs.Ytniifpfhfpcmcaa
open Go.Shelf
open Go.RowKit
set_option linter.unusedVariables false

def sort_ren : Go.Shelf.Ren := ⟨fun | 5 => 64 | 8 => 73 | 7 => 72 | 19 => 84 | 20 => 85 | 10 => 76 | 11 => 77 | 12 => 78 | 13 => 79 | 14 => 80 | 15 => 81 | 16 => 66 | 17 => 82 | 18 => 83 | 30 => 87 | 31 => 88 | 32 => 89 | 33 => 90 | 34 => 91 | 35 => 74 | 40 => 92 | n => n, fun | 23 => 22 | 25 => 2 | 3 => 3 | 32 => 69 | 22 => 22 | 0 => 0 | 44 => 83 | 46 => 63 | 4 => 4 | 36 => 77 | 35 => 76 | 41 => 57 | 5 => 5 | 9 => 9 | 53 => 85 | 57 => 89 | 63 => 91 | 64 => 92 | n => n, fun | n => n⟩
theorem sort_lays : Go.Proofs.SlLaysM.n5 Try.prog sort_ren := {
  mixed := by kernel_rfl,
  f5 := ⟨Try.f64.name, by decide, Try.func64.trans (congrArg some (by kernel_rfl))⟩,
  f7 := ⟨Try.f72.name, by decide, Try.func72.trans (congrArg some (by kernel_rfl))⟩,
  f8 := Try.func73.trans (congrArg some (by kernel_rfl)),
  f10 := ⟨Try.f76.name, by decide, Try.func76.trans (congrArg some (by kernel_rfl))⟩,
  f11 := ⟨Try.f77.name, by decide, Try.func77.trans (congrArg some (by kernel_rfl))⟩,
  f12 := ⟨Try.f78.name, by decide, Try.func78.trans (congrArg some (by kernel_rfl))⟩,
  f13 := ⟨Try.f79.name, by decide, Try.func79.trans (congrArg some (by kernel_rfl))⟩,
  f14 := ⟨Try.f80.name, by decide, Try.func80.trans (congrArg some (by kernel_rfl))⟩,
  f15 := ⟨Try.f81.name, by decide, Try.func81.trans (congrArg some (by kernel_rfl))⟩,
  f16 := ⟨Try.f66.name, by decide, Try.func66.trans (congrArg some (by kernel_rfl))⟩,
  f17 := ⟨Try.f82.name, by decide, Try.func82.trans (congrArg some (by kernel_rfl))⟩,
  f18 := ⟨Try.f83.name, by decide, Try.func83.trans (congrArg some (by kernel_rfl))⟩,
  f19 := Try.func84.trans (congrArg some (by kernel_rfl)),
  f20 := Try.func85.trans (congrArg some (by kernel_rfl)),
  f30 := ⟨Try.f87.name, by decide, Try.func87.trans (congrArg some (by kernel_rfl))⟩,
  f31 := Try.func88.trans (congrArg some (by kernel_rfl)),
  f32 := Try.func89.trans (congrArg some (by kernel_rfl)),
  f33 := ⟨Try.f90.name, by decide, Try.func90.trans (congrArg some (by kernel_rfl))⟩,
  f34 := ⟨Try.f91.name, by decide, Try.func91.trans (congrArg some (by kernel_rfl))⟩,
  f35 := ⟨Try.f74.name, by decide, Try.func74.trans (congrArg some (by kernel_rfl))⟩,
  f40 := ⟨Try.f92.name, by decide, Try.func92.trans (congrArg some (by kernel_rfl))⟩,
  t0 := Try.underlying0,
  a0 := Try.isAgg0,
  z0 := Try.sizeOf0,
  v0 := Try.zeroValue0,
  t3 := Try.underlying3,
  a3 := Try.isAgg3,
  z3 := Try.sizeOf3,
  v3 := Try.zeroValue3,
  t4 := Try.underlying4,
  a4 := Try.isAgg4,
  z4 := Try.sizeOf4,
  v4 := Try.zeroValue4,
  t5 := Try.underlying5,
  a5 := Try.isAgg5,
  z5 := Try.sizeOf5,
  v5 := Try.zeroValue5,
  t9 := Try.underlying9,
  a9 := Try.isAgg9,
  z9 := Try.sizeOf9,
  v9 := Try.zeroValue9,
  t22 := Try.underlying22,
  a22 := Try.isAgg22,
  z22 := Try.sizeOf22,
  v22 := Try.zeroValue22,
  t23 := Try.underlying22,
  a23 := Try.isAgg22,
  z23 := Try.sizeOf22,
  v23 := Try.zeroValue22,
  t25 := Try.underlying2,
  a25 := Try.isAgg2,
  z25 := Try.sizeOf2,
  v25 := Try.zeroValue2,
  t32 := Try.underlying69,
  a32 := Try.isAgg69,
  z32 := Try.sizeOf69,
  v32 := Try.zeroValue69,
  t35 := Try.underlying76,
  a35 := Try.isAgg76,
  z35 := Try.sizeOf76,
  v35 := Try.zeroValue76,
  t36 := Try.underlying77,
  a36 := Try.isAgg77,
  z36 := Try.sizeOf77,
  v36 := Try.zeroValue77,
  t41 := Try.underlying57,
  a41 := Try.isAgg57,
  z41 := Try.sizeOf57,
  v41 := Try.zeroValue57,
  t44 := Try.underlying83,
  a44 := Try.isAgg83,
  z44 := Try.sizeOf83,
  v44 := Try.zeroValue83,
  t46 := Try.underlying63,
  a46 := Try.isAgg63,
  z46 := Try.sizeOf63,
  v46 := Try.zeroValue63,
  t53 := Try.underlying85,
  a53 := Try.isAgg85,
  z53 := Try.sizeOf85,
  v53 := Try.zeroValue85,
  t57 := Try.underlying89,
  a57 := Try.isAgg89,
  z57 := Try.sizeOf89,
  v57 := Try.zeroValue89,
  t63 := Try.underlying91,
  a63 := Try.isAgg91,
  z63 := Try.sizeOf91,
  v63 := Try.zeroValue91,
  t64 := Try.underlying92,
  a64 := Try.isAgg92,
  z64 := Try.sizeOf92,
  v64 := Try.zeroValue92 }

/-- slices.Sort over a row of the call's own. -/
theorem sort_own (A : Option Addr) (n c base : Nat) (zs : List Int) (w : World) (h : OwnI w base (.slice A n c) n zs) (hn : n ≤ 1048576) : Calls Try.prog 64 #[.slice A n c] w fun e w' =>
    e = .returned (.tuple #[]) ∧ OwnI w' base (.slice A n c) n (zs.mergeSort fun x y => decide (x ≤ y)) ∧ w.grownBy w' (Value.slice A n c).ownBlock := by
  rcases Nat.eq_zero_or_pos n with rfl | hp
  · have hz : zs = [] := List.eq_nil_of_length_eq_zero (OwnI.len h)
    subst hz
    have hc := AnyM.slices_Sort_int_none sort_lays A c w
    change Calls Try.prog 64 _ _ _ at hc
    refine hc.mono ?_
    rintro e w' ⟨rfl, rfl⟩
    exact ⟨rfl, by simpa using h, World.grownBy.refl _ _⟩
  have hv : (Value.slice A n c) ≠ .slice none 0 0 := fun e => by
    injection e with e1 e2 e3
    omega
  obtain ⟨g, cap, e0, hb, hlt, hnc, hcm, hl, hH⟩ := Lib.holds_of_ownsRow h hv
  have e1 : A = some ⟨g, 0, none⟩ ∧ c = cap := by simpa using e0
  obtain ⟨rfl, rfl⟩ := e1
  have hc := AnyM.slices_Sort_int sort_lays g 0 c zs w hH hlt (by omega)
  rw [hl] at hc
  change Calls Try.prog 64 _ _ _ at hc
  refine hc.mono ?_
  rintro e w' ⟨rfl, q, os, rfl⟩
  have hy : (zs.mergeSort fun x y => decide (x ≤ y)).length = n := by rw [List.length_mergeSort]; exact hl
  have h2 := Lib.ownsRow_putRow (q := q) h hy (Nat.le_refl n)
  rw [List.take_of_length_le (by omega)] at h2
  have hg : (Sort.putRow (Value.int .i64) (Sort.ahead w q) g 0 (zs.mergeSort fun x y => decide (x ≤ y)).toArray).grownBy (Sort.grow (Sort.putRow (Value.int .i64) (Sort.ahead w q) g 0 (zs.mergeSort fun x y => decide (x ≤ y)).toArray) os) none :=
    ⟨rfl, rfl, rfl, by simp [Sort.grow], fun k hk _ => Array.getElem?_append_left hk⟩
  refine ⟨rfl, World.ownsRow.kept h2 hg (by simp [Value.ownBlock]), rfl, rfl, rfl, ?_, fun k hk hne => ?_⟩
  · simp [Sort.grow, Sort.putRow, Sort.mapBlock, Sort.ahead]
  · have hne2 : g ≠ k := fun e => hne (by rw [e]; rfl)
    have hk2 : k < (Sort.putRow (Value.int .i64) (Sort.ahead w q) g 0 (zs.mergeSort fun x y => decide (x ≤ y)).toArray).heap.size := by simpa [Sort.putRow, Sort.mapBlock, Sort.ahead] using hk
    refine (Array.getElem?_append_left hk2).trans ?_
    simp only [Sort.putRow, Sort.mapBlock, Sort.ahead]
    rw [Array.getElem?_modify, if_neg hne2]
end Go.Proofs.Ytniifpfhfpcmcaa
