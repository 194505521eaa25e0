/- ReportText: contracts and law. -/
import Derived.Test.YtopefgahppfkcaaDoorDec
import Derived.Test.YtopefgahppfkcaaDoorShD17
import Derived.Lib.ItoaLen
import Derived.Lib.SmallJoins
import Derived.Lib.LaidTab
import Derived.Stop.LaidErr
import Derived.LaidMore
namespace Go.Proofs.YtopefgahppfkcaaDoor
open Go.RowKit
set_option linter.unusedVariables false
set_option linter.unusedSimpArgs false

/-- A number in decimal, as a text. -/
def dtx (n : Int) : ByteArray := ⟨(Lib.decDigits n.toNat).toArray⟩
theorem dtx_size {n : Int} (n1 : n ≤ 100000) : (dtx n).size ≤ 20 := by
  have : (dtx n).size = (Lib.decDigits n.toNat).length := rfl
  rw [this, Lib.decDigits_length]
  exact Lib.nDigits_le20 _ (by omega)
/-- The library's table of powers of ten is laid. -/
def Tab (w : World) : Prop := ∀ nm, (Rows.fnExactReportTextRow.laid[2]?).map (·.1) = some nm → Lib.TabIs Tryd.prog w nm .u64 Lib.pow10Tab
theorem tabG (nm : String) (e : (Rows.fnExactReportTextRow.laid[2]?).map (·.1) = some nm) : ∃ g, Tryd.prog.globalNamed nm = some g := by
  have e2 := Option.some.inj e
  subst e2
  exact Option.isSome_iff_exists.1 (by kernel_rfl)
theorem Tab.keep {w w' : World} (h : Tab w) (hb : Below w.heap.size w w') : Tab w' := fun nm e => by
  have h1 := h nm e
  have e2 := Option.some.inj e
  subst e2
  obtain ⟨g, hg⟩ := tabG _ e
  exact Go.Joins.var_stays hg h1 hb (Nat.le_refl _)
theorem below_grow (w : World) (k : Nat) (os : Array Obj) : Below w.heap.size w (Sort.grow (w.drewN k) os) :=
  ⟨rfl, rfl, rfl, by simp [Sort.grow], fun i hi => Array.getElem?_append_left hi⟩
theorem decimalF_any (n : Int) (w : World) (n0 : 0 ≤ n) (n1 : n ≤ 100000) (hT : Tab w) : Calls Tryd.prog 27 #[.int .i64 n] w fun e w' => e = .returned (.string (dtx n)) ∧ Below w.heap.size w w' := by
  obtain ⟨n, rfl⟩ := Int.eq_ofNat_of_zero_le n0
  have hcon := Any.strconv_FormatInt_10 laysDec n (by omega) (by omega) w (hT _ rfl)
  rw [Lib.itoa_nonneg] at hcon
  change Calls Tryd.prog 38 _ _ (fun e w' => e = .returned (.string (dtx n)) ∧ ∃ k os, w' = Sort.grow (w.drewN k) os) at hcon
  generalize dtx (n : Int) = r at hcon ⊢
  clear hT
  go_enter Tryd.func27, Tryd.ntmps27
  go_wp2_with fail
  refine hcon.mono ?_
  rintro e w' ⟨rfl, k, os, rfl⟩
  have hb := below_grow w k os
  generalize Sort.grow (w.drewN k) os = W at *
  go_wp2_with fail
  go_ret
  exact ⟨rfl, hb⟩
/-- The word of a kind. -/
def kx : Nat → ByteArray
  | 1 => ⟨#[119, 111, 114, 100]⟩
  | 2 => ⟨#[99, 111, 117, 110, 116]⟩
  | 3 => ⟨#[110, 117, 109, 98, 101, 114]⟩
  | 4 => ⟨#[115, 116, 114, 111, 107, 101]⟩
  | 5 => ⟨#[111, 114, 100, 101, 114]⟩
  | 6 => ⟨#[116, 119, 105, 99, 101]⟩
  | 7 => ⟨#[102, 117, 108, 108]⟩
  | _ => ⟨#[]⟩
def repX (r : Int) (k : Nat) : ByteArray := ⟨#[114, 111, 119, 32]⟩ ++ dtx r ++ ⟨#[58, 32]⟩ ++ kx k
def repT (r k : Int) : ByteArray := if inB r 1 3001 && inB k 1 7 then repX r k.toNat else ⟨#[]⟩
def TxPost (t : ByteArray) (w : World) (e : Ending) (w' : World) : Prop := e = .returned (.string t) ∧ Below w.heap.size w w'
theorem decimalF_eq (n : Int) (t : ByteArray) (w : World) (n0 : 0 < n) (n1 : n ≤ 100000) (hT : Tab w) (ht : dtx n = t) : Calls Tryd.prog 27 #[.int .i64 n] w fun e w' => e = .returned (.string t) ∧ Below w.heap.size w w' := by
  subst ht; exact decimalF_any n w (by omega) n1 hT
theorem l01Dec_eq (n : Int) (t : ByteArray) (w : World) (n0 : 0 < n) (n1 : n ≤ 100000) (hT : Tab w) (ht : dtx n = t) : Calls Tryd.prog 25 #[.int .i64 n] w fun e w' => e = .returned (.string t) ∧ Below w.heap.size w w' := by
  subst ht
  obtain ⟨n, rfl⟩ := Int.eq_ofNat_of_zero_le (show 0 ≤ n by omega)
  exact l01Dec_any n w (by omega) (by omega)
theorem Tab.drew {w : World} (h : Tab w) : Tab w.drew := h.keep (Below.drew (Below.refl _ _))
theorem withinE (n a b : Int) (v : Bool) (w : World) (h : inB n a b = v) : Calls Tryd.prog 26 #[.int .i64 n, .int .i64 a, .int .i64 b] w fun e w' => e = .returned (.bool v) ∧ w = w' := by
  rw [← h]; exact within_any n a b w
theorem l00InE (n a b : Int) (v : Bool) (w : World) (h : inB n a b = v) : Calls Tryd.prog 24 #[.int .i64 n, .int .i64 a, .int .i64 b] w fun e w' => e = .returned (.bool v) ∧ w = w' := by
  rw [← h]; exact l00In_any n a b w
theorem toReport_any (r k : Int) (w : World) : Calls Tryd.prog 9 #[.agg #[.int .i64 r, .int .i64 k]] w fun e w' => e = .returned (.agg #[.int .i64 r, .int .i64 k]) ∧ Below w.heap.size w w' := by
  go_enter Tryd.func9, Tryd.ntmps9
  go_wp2
  go_returns
  exact ⟨rfl, by go_grown⟩
theorem boxI (r k : Int) (w : World) (hT : Tab w) : ∃ W, (w.alloc (.cells #[.int .i64 r, .int .i64 k] 25)).alloc (.cells #[.string ⟨#[119, 111, 114, 100]⟩, .string ⟨#[99, 111, 117, 110, 116]⟩, .string ⟨#[110, 117, 109, 98, 101, 114]⟩, .string ⟨#[115, 116, 114, 111, 107, 101]⟩, .string ⟨#[111, 114, 100, 101, 114]⟩, .string ⟨#[116, 119, 105, 99, 101]⟩, .string ⟨#[102, 117, 108, 108]⟩] 49) = W ∧ W.cell? ⟨w.heap.size, 0, none⟩ = some (.int .i64 r) ∧ W.cell? ⟨w.heap.size, 1, none⟩ = some (.int .i64 k) ∧ W.cell? ⟨w.heap.size + 1, 0, none⟩ = some (.string ⟨#[119, 111, 114, 100]⟩) ∧ W.cell? ⟨w.heap.size + 1, 1, none⟩ = some (.string ⟨#[99, 111, 117, 110, 116]⟩) ∧ W.cell? ⟨w.heap.size + 1, 2, none⟩ = some (.string ⟨#[110, 117, 109, 98, 101, 114]⟩) ∧ W.cell? ⟨w.heap.size + 1, 3, none⟩ = some (.string ⟨#[115, 116, 114, 111, 107, 101]⟩) ∧ W.cell? ⟨w.heap.size + 1, 4, none⟩ = some (.string ⟨#[111, 114, 100, 101, 114]⟩) ∧ W.cell? ⟨w.heap.size + 1, 5, none⟩ = some (.string ⟨#[116, 119, 105, 99, 101]⟩) ∧ W.cell? ⟨w.heap.size + 1, 6, none⟩ = some (.string ⟨#[102, 117, 108, 108]⟩) ∧ BoxD (Tab W) ∧ Below w.heap.size w W :=
  ⟨_, rfl, by go_cell, by go_cell, by go_cell, by go_cell, by go_cell, by go_cell, by go_cell, by go_cell, by go_cell, ⟨hT.keep (by go_grown)⟩, by go_grown⟩
theorem boxS (r k : Int) (w : World) (hT : Tab w) : ∃ W, (w.alloc (.cells #[.int .i64 r, .int .i64 k] 25)).alloc (.cells #[.string ⟨#[]⟩, .string ⟨#[119, 111, 114, 100]⟩, .string ⟨#[99, 111, 117, 110, 116]⟩, .string ⟨#[110, 117, 109, 98, 101, 114]⟩, .string ⟨#[115, 116, 114, 111, 107, 101]⟩, .string ⟨#[111, 114, 100, 101, 114]⟩, .string ⟨#[116, 119, 105, 99, 101]⟩, .string ⟨#[102, 117, 108, 108]⟩] 9) = W ∧ W.cell? ⟨w.heap.size, 0, none⟩ = some (.int .i64 r) ∧ W.cell? ⟨w.heap.size, 1, none⟩ = some (.int .i64 k) ∧ W.cell? ⟨w.heap.size + 1, 0, none⟩ = some (.string ⟨#[]⟩) ∧ W.cell? ⟨w.heap.size + 1, 1, none⟩ = some (.string ⟨#[119, 111, 114, 100]⟩) ∧ W.cell? ⟨w.heap.size + 1, 2, none⟩ = some (.string ⟨#[99, 111, 117, 110, 116]⟩) ∧ W.cell? ⟨w.heap.size + 1, 3, none⟩ = some (.string ⟨#[110, 117, 109, 98, 101, 114]⟩) ∧ W.cell? ⟨w.heap.size + 1, 4, none⟩ = some (.string ⟨#[115, 116, 114, 111, 107, 101]⟩) ∧ W.cell? ⟨w.heap.size + 1, 5, none⟩ = some (.string ⟨#[111, 114, 100, 101, 114]⟩) ∧ W.cell? ⟨w.heap.size + 1, 6, none⟩ = some (.string ⟨#[116, 119, 105, 99, 101]⟩) ∧ W.cell? ⟨w.heap.size + 1, 7, none⟩ = some (.string ⟨#[102, 117, 108, 108]⟩) ∧ BoxD (Tab W) ∧ Below w.heap.size w W :=
  ⟨_, rfl, by go_cell, by go_cell, by go_cell, by go_cell, by go_cell, by go_cell, by go_cell, by go_cell, by go_cell, by go_cell, ⟨hT.keep (by go_grown)⟩, by go_grown⟩
set_option maxRecDepth 100000 in
set_option maxHeartbeats 4000000 in
theorem implReportText_any (r k : Int) (w : World) (hT : Tab w) : Calls Tryd.prog 10 #[.agg #[.int .i64 r, .int .i64 k]] w (TxPost (repT r k) w) := by
  have HT := BoxD.mk hT
  clear hT
  cases h1 : inB r 1 3001
  · have HV := Lib.hid (show repT r k = ⟨#[]⟩ by simp [repT, h1])
    rw [HV.out]
    go_enter Tryd.func10, Tryd.ntmps10
    go_wp2_with fail
    refine (withinE _ _ _ false _ h1).mono ?_
    rintro e w1 ⟨rfl, rfl⟩
    go_wp2_with fail
    go_ret
    exact ⟨rfl, by go_grown⟩
  cases h2 : inB k 1 7
  · have HV := Lib.hid (show repT r k = ⟨#[]⟩ by simp [repT, h2])
    rw [HV.out]
    go_enter Tryd.func10, Tryd.ntmps10
    go_wp2_with fail
    refine (withinE _ _ _ true _ h1).mono ?_
    rintro e w1 ⟨rfl, rfl⟩
    go_wp2_with fail
    refine (withinE _ _ _ false _ h2).mono ?_
    rintro e w1 ⟨rfl, rfl⟩
    go_wp2_with fail
    go_ret
    exact ⟨rfl, by go_grown⟩
  obtain ⟨r0, r1⟩ := (inB_iff _ _ _).1 h1
  obtain ⟨k0, k1⟩ := (inB_iff _ _ _).1 h2
  have HV := Lib.hid (show repT r k = repX r k.toNat by simp [repT, h1, h2])
  rw [HV.out]
  obtain ⟨tr, hr, zr⟩ : ∃ t, dtx r = t ∧ t.size ≤ 20 := ⟨_, rfl, dtx_size (by omega)⟩
  have n1 : ¬ 9223372036854775807 < 4 + tr.size := by omega
  have n2 : ¬ 9223372036854775807 < 4 + tr.size + 2 := by omega
  have n3 : ¬ 9223372036854775807 < 4 + tr.size + 2 + 4 := by omega
  have n4 : ¬ 9223372036854775807 < 4 + tr.size + 2 + 5 := by omega
  have n5 : ¬ 9223372036854775807 < 4 + tr.size + 2 + 6 := by omega
  obtain rfl | rfl | rfl | rfl | rfl | rfl | rfl : k = 1 ∨ k = 2 ∨ k = 3 ∨ k = 4 ∨ k = 5 ∨ k = 6 ∨ k = 7 := by omega
  · obtain ⟨W, hW, c0, c1, c2, c3, c4, c5, c6, c7, c8, hTW, hB⟩ := boxI r 1 w HT.out
    have hs1 : IntKind.i64.wrap ((1 : Int) - 1) = 0 := by rw [IntKind.wrap_i64]; omega
    have hs2 : IntKind.i64.wrap (0 : Int) = 0 := by rw [IntKind.wrap_i64]; omega
    go_enter Tryd.func10, Tryd.ntmps10
    go_wp2_with fail
    refine (withinE _ _ _ true _ h1).mono ?_
    rintro e w1 ⟨rfl, rfl⟩
    go_wp2_with fail
    refine (withinE _ _ _ true _ h2).mono ?_
    rintro e w1 ⟨rfl, rfl⟩
    clear hW
    go_wp2_with fail
    go_region_held3 (fun w' => w'.cell? ⟨w.heap.size, 0, none⟩ = some (.int .i64 r) ∧ w'.cell? ⟨w.heap.size, 1, none⟩ = some (.int .i64 1) ∧ w'.cell? ⟨w.heap.size + 1, 0, none⟩ = some (.string ⟨#[119, 111, 114, 100]⟩) ∧ w'.cell? ⟨w.heap.size + 1, 1, none⟩ = some (.string ⟨#[99, 111, 117, 110, 116]⟩) ∧ w'.cell? ⟨w.heap.size + 1, 2, none⟩ = some (.string ⟨#[110, 117, 109, 98, 101, 114]⟩) ∧ w'.cell? ⟨w.heap.size + 1, 3, none⟩ = some (.string ⟨#[115, 116, 114, 111, 107, 101]⟩) ∧ w'.cell? ⟨w.heap.size + 1, 4, none⟩ = some (.string ⟨#[111, 114, 100, 101, 114]⟩) ∧ w'.cell? ⟨w.heap.size + 1, 5, none⟩ = some (.string ⟨#[116, 119, 105, 99, 101]⟩) ∧ w'.cell? ⟨w.heap.size + 1, 6, none⟩ = some (.string ⟨#[102, 117, 108, 108]⟩) ∧ BoxD (Tab w') ∧ Below w.heap.size w w')
      (((try go_split_ands); (try dsimp only); (repeat' apply And.intro)) <;> first | assumption | exact keepd (by assumption) | exact Below.drew (by assumption) | exact keepc hb2 (by assumption) | exact belowT hb2 (by assumption) | exact BoxD.mk (Tab.drew (BoxD.out (by assumption))) | exact BoxD.mk (Tab.keep (BoxD.out (by assumption)) hb2))
      ((go_at_call 27; refine (decimalF_eq _ _ _ (by omega) (by omega) (by go_split_ands; exact BoxD.out (by assumption)) hr).mono ?_; rintro e w' ⟨rfl, hb2⟩))
    all_goals
      go_wp2
      go_ret
      exact ⟨by rw [← hr]; rfl, by go_split_ands; assumption⟩
  · obtain ⟨W, hW, c0, c1, c2, c3, c4, c5, c6, c7, c8, hTW, hB⟩ := boxI r 2 w HT.out
    have hs1 : IntKind.i64.wrap ((2 : Int) - 1) = 1 := by rw [IntKind.wrap_i64]; omega
    have hs2 : IntKind.i64.wrap (1 : Int) = 1 := by rw [IntKind.wrap_i64]; omega
    go_enter Tryd.func10, Tryd.ntmps10
    go_wp2_with fail
    refine (withinE _ _ _ true _ h1).mono ?_
    rintro e w1 ⟨rfl, rfl⟩
    go_wp2_with fail
    refine (withinE _ _ _ true _ h2).mono ?_
    rintro e w1 ⟨rfl, rfl⟩
    clear hW
    go_wp2_with fail
    go_region_held3 (fun w' => w'.cell? ⟨w.heap.size, 0, none⟩ = some (.int .i64 r) ∧ w'.cell? ⟨w.heap.size, 1, none⟩ = some (.int .i64 2) ∧ w'.cell? ⟨w.heap.size + 1, 0, none⟩ = some (.string ⟨#[119, 111, 114, 100]⟩) ∧ w'.cell? ⟨w.heap.size + 1, 1, none⟩ = some (.string ⟨#[99, 111, 117, 110, 116]⟩) ∧ w'.cell? ⟨w.heap.size + 1, 2, none⟩ = some (.string ⟨#[110, 117, 109, 98, 101, 114]⟩) ∧ w'.cell? ⟨w.heap.size + 1, 3, none⟩ = some (.string ⟨#[115, 116, 114, 111, 107, 101]⟩) ∧ w'.cell? ⟨w.heap.size + 1, 4, none⟩ = some (.string ⟨#[111, 114, 100, 101, 114]⟩) ∧ w'.cell? ⟨w.heap.size + 1, 5, none⟩ = some (.string ⟨#[116, 119, 105, 99, 101]⟩) ∧ w'.cell? ⟨w.heap.size + 1, 6, none⟩ = some (.string ⟨#[102, 117, 108, 108]⟩) ∧ BoxD (Tab w') ∧ Below w.heap.size w w')
      (((try go_split_ands); (try dsimp only); (repeat' apply And.intro)) <;> first | assumption | exact keepd (by assumption) | exact Below.drew (by assumption) | exact keepc hb2 (by assumption) | exact belowT hb2 (by assumption) | exact BoxD.mk (Tab.drew (BoxD.out (by assumption))) | exact BoxD.mk (Tab.keep (BoxD.out (by assumption)) hb2))
      ((go_at_call 27; refine (decimalF_eq _ _ _ (by omega) (by omega) (by go_split_ands; exact BoxD.out (by assumption)) hr).mono ?_; rintro e w' ⟨rfl, hb2⟩))
    all_goals
      go_wp2
      go_ret
      exact ⟨by rw [← hr]; rfl, by go_split_ands; assumption⟩
  · obtain ⟨W, hW, c0, c1, c2, c3, c4, c5, c6, c7, c8, hTW, hB⟩ := boxI r 3 w HT.out
    have hs1 : IntKind.i64.wrap ((3 : Int) - 1) = 2 := by rw [IntKind.wrap_i64]; omega
    have hs2 : IntKind.i64.wrap (2 : Int) = 2 := by rw [IntKind.wrap_i64]; omega
    go_enter Tryd.func10, Tryd.ntmps10
    go_wp2_with fail
    refine (withinE _ _ _ true _ h1).mono ?_
    rintro e w1 ⟨rfl, rfl⟩
    go_wp2_with fail
    refine (withinE _ _ _ true _ h2).mono ?_
    rintro e w1 ⟨rfl, rfl⟩
    clear hW
    go_wp2_with fail
    go_region_held3 (fun w' => w'.cell? ⟨w.heap.size, 0, none⟩ = some (.int .i64 r) ∧ w'.cell? ⟨w.heap.size, 1, none⟩ = some (.int .i64 3) ∧ w'.cell? ⟨w.heap.size + 1, 0, none⟩ = some (.string ⟨#[119, 111, 114, 100]⟩) ∧ w'.cell? ⟨w.heap.size + 1, 1, none⟩ = some (.string ⟨#[99, 111, 117, 110, 116]⟩) ∧ w'.cell? ⟨w.heap.size + 1, 2, none⟩ = some (.string ⟨#[110, 117, 109, 98, 101, 114]⟩) ∧ w'.cell? ⟨w.heap.size + 1, 3, none⟩ = some (.string ⟨#[115, 116, 114, 111, 107, 101]⟩) ∧ w'.cell? ⟨w.heap.size + 1, 4, none⟩ = some (.string ⟨#[111, 114, 100, 101, 114]⟩) ∧ w'.cell? ⟨w.heap.size + 1, 5, none⟩ = some (.string ⟨#[116, 119, 105, 99, 101]⟩) ∧ w'.cell? ⟨w.heap.size + 1, 6, none⟩ = some (.string ⟨#[102, 117, 108, 108]⟩) ∧ BoxD (Tab w') ∧ Below w.heap.size w w')
      (((try go_split_ands); (try dsimp only); (repeat' apply And.intro)) <;> first | assumption | exact keepd (by assumption) | exact Below.drew (by assumption) | exact keepc hb2 (by assumption) | exact belowT hb2 (by assumption) | exact BoxD.mk (Tab.drew (BoxD.out (by assumption))) | exact BoxD.mk (Tab.keep (BoxD.out (by assumption)) hb2))
      ((go_at_call 27; refine (decimalF_eq _ _ _ (by omega) (by omega) (by go_split_ands; exact BoxD.out (by assumption)) hr).mono ?_; rintro e w' ⟨rfl, hb2⟩))
    all_goals
      go_wp2
      go_ret
      exact ⟨by rw [← hr]; rfl, by go_split_ands; assumption⟩
  · obtain ⟨W, hW, c0, c1, c2, c3, c4, c5, c6, c7, c8, hTW, hB⟩ := boxI r 4 w HT.out
    have hs1 : IntKind.i64.wrap ((4 : Int) - 1) = 3 := by rw [IntKind.wrap_i64]; omega
    have hs2 : IntKind.i64.wrap (3 : Int) = 3 := by rw [IntKind.wrap_i64]; omega
    go_enter Tryd.func10, Tryd.ntmps10
    go_wp2_with fail
    refine (withinE _ _ _ true _ h1).mono ?_
    rintro e w1 ⟨rfl, rfl⟩
    go_wp2_with fail
    refine (withinE _ _ _ true _ h2).mono ?_
    rintro e w1 ⟨rfl, rfl⟩
    clear hW
    go_wp2_with fail
    go_region_held3 (fun w' => w'.cell? ⟨w.heap.size, 0, none⟩ = some (.int .i64 r) ∧ w'.cell? ⟨w.heap.size, 1, none⟩ = some (.int .i64 4) ∧ w'.cell? ⟨w.heap.size + 1, 0, none⟩ = some (.string ⟨#[119, 111, 114, 100]⟩) ∧ w'.cell? ⟨w.heap.size + 1, 1, none⟩ = some (.string ⟨#[99, 111, 117, 110, 116]⟩) ∧ w'.cell? ⟨w.heap.size + 1, 2, none⟩ = some (.string ⟨#[110, 117, 109, 98, 101, 114]⟩) ∧ w'.cell? ⟨w.heap.size + 1, 3, none⟩ = some (.string ⟨#[115, 116, 114, 111, 107, 101]⟩) ∧ w'.cell? ⟨w.heap.size + 1, 4, none⟩ = some (.string ⟨#[111, 114, 100, 101, 114]⟩) ∧ w'.cell? ⟨w.heap.size + 1, 5, none⟩ = some (.string ⟨#[116, 119, 105, 99, 101]⟩) ∧ w'.cell? ⟨w.heap.size + 1, 6, none⟩ = some (.string ⟨#[102, 117, 108, 108]⟩) ∧ BoxD (Tab w') ∧ Below w.heap.size w w')
      (((try go_split_ands); (try dsimp only); (repeat' apply And.intro)) <;> first | assumption | exact keepd (by assumption) | exact Below.drew (by assumption) | exact keepc hb2 (by assumption) | exact belowT hb2 (by assumption) | exact BoxD.mk (Tab.drew (BoxD.out (by assumption))) | exact BoxD.mk (Tab.keep (BoxD.out (by assumption)) hb2))
      ((go_at_call 27; refine (decimalF_eq _ _ _ (by omega) (by omega) (by go_split_ands; exact BoxD.out (by assumption)) hr).mono ?_; rintro e w' ⟨rfl, hb2⟩))
    all_goals
      go_wp2
      go_ret
      exact ⟨by rw [← hr]; rfl, by go_split_ands; assumption⟩
  · obtain ⟨W, hW, c0, c1, c2, c3, c4, c5, c6, c7, c8, hTW, hB⟩ := boxI r 5 w HT.out
    have hs1 : IntKind.i64.wrap ((5 : Int) - 1) = 4 := by rw [IntKind.wrap_i64]; omega
    have hs2 : IntKind.i64.wrap (4 : Int) = 4 := by rw [IntKind.wrap_i64]; omega
    go_enter Tryd.func10, Tryd.ntmps10
    go_wp2_with fail
    refine (withinE _ _ _ true _ h1).mono ?_
    rintro e w1 ⟨rfl, rfl⟩
    go_wp2_with fail
    refine (withinE _ _ _ true _ h2).mono ?_
    rintro e w1 ⟨rfl, rfl⟩
    clear hW
    go_wp2_with fail
    go_region_held3 (fun w' => w'.cell? ⟨w.heap.size, 0, none⟩ = some (.int .i64 r) ∧ w'.cell? ⟨w.heap.size, 1, none⟩ = some (.int .i64 5) ∧ w'.cell? ⟨w.heap.size + 1, 0, none⟩ = some (.string ⟨#[119, 111, 114, 100]⟩) ∧ w'.cell? ⟨w.heap.size + 1, 1, none⟩ = some (.string ⟨#[99, 111, 117, 110, 116]⟩) ∧ w'.cell? ⟨w.heap.size + 1, 2, none⟩ = some (.string ⟨#[110, 117, 109, 98, 101, 114]⟩) ∧ w'.cell? ⟨w.heap.size + 1, 3, none⟩ = some (.string ⟨#[115, 116, 114, 111, 107, 101]⟩) ∧ w'.cell? ⟨w.heap.size + 1, 4, none⟩ = some (.string ⟨#[111, 114, 100, 101, 114]⟩) ∧ w'.cell? ⟨w.heap.size + 1, 5, none⟩ = some (.string ⟨#[116, 119, 105, 99, 101]⟩) ∧ w'.cell? ⟨w.heap.size + 1, 6, none⟩ = some (.string ⟨#[102, 117, 108, 108]⟩) ∧ BoxD (Tab w') ∧ Below w.heap.size w w')
      (((try go_split_ands); (try dsimp only); (repeat' apply And.intro)) <;> first | assumption | exact keepd (by assumption) | exact Below.drew (by assumption) | exact keepc hb2 (by assumption) | exact belowT hb2 (by assumption) | exact BoxD.mk (Tab.drew (BoxD.out (by assumption))) | exact BoxD.mk (Tab.keep (BoxD.out (by assumption)) hb2))
      ((go_at_call 27; refine (decimalF_eq _ _ _ (by omega) (by omega) (by go_split_ands; exact BoxD.out (by assumption)) hr).mono ?_; rintro e w' ⟨rfl, hb2⟩))
    all_goals
      go_wp2
      go_ret
      exact ⟨by rw [← hr]; rfl, by go_split_ands; assumption⟩
  · obtain ⟨W, hW, c0, c1, c2, c3, c4, c5, c6, c7, c8, hTW, hB⟩ := boxI r 6 w HT.out
    have hs1 : IntKind.i64.wrap ((6 : Int) - 1) = 5 := by rw [IntKind.wrap_i64]; omega
    have hs2 : IntKind.i64.wrap (5 : Int) = 5 := by rw [IntKind.wrap_i64]; omega
    go_enter Tryd.func10, Tryd.ntmps10
    go_wp2_with fail
    refine (withinE _ _ _ true _ h1).mono ?_
    rintro e w1 ⟨rfl, rfl⟩
    go_wp2_with fail
    refine (withinE _ _ _ true _ h2).mono ?_
    rintro e w1 ⟨rfl, rfl⟩
    clear hW
    go_wp2_with fail
    go_region_held3 (fun w' => w'.cell? ⟨w.heap.size, 0, none⟩ = some (.int .i64 r) ∧ w'.cell? ⟨w.heap.size, 1, none⟩ = some (.int .i64 6) ∧ w'.cell? ⟨w.heap.size + 1, 0, none⟩ = some (.string ⟨#[119, 111, 114, 100]⟩) ∧ w'.cell? ⟨w.heap.size + 1, 1, none⟩ = some (.string ⟨#[99, 111, 117, 110, 116]⟩) ∧ w'.cell? ⟨w.heap.size + 1, 2, none⟩ = some (.string ⟨#[110, 117, 109, 98, 101, 114]⟩) ∧ w'.cell? ⟨w.heap.size + 1, 3, none⟩ = some (.string ⟨#[115, 116, 114, 111, 107, 101]⟩) ∧ w'.cell? ⟨w.heap.size + 1, 4, none⟩ = some (.string ⟨#[111, 114, 100, 101, 114]⟩) ∧ w'.cell? ⟨w.heap.size + 1, 5, none⟩ = some (.string ⟨#[116, 119, 105, 99, 101]⟩) ∧ w'.cell? ⟨w.heap.size + 1, 6, none⟩ = some (.string ⟨#[102, 117, 108, 108]⟩) ∧ BoxD (Tab w') ∧ Below w.heap.size w w')
      (((try go_split_ands); (try dsimp only); (repeat' apply And.intro)) <;> first | assumption | exact keepd (by assumption) | exact Below.drew (by assumption) | exact keepc hb2 (by assumption) | exact belowT hb2 (by assumption) | exact BoxD.mk (Tab.drew (BoxD.out (by assumption))) | exact BoxD.mk (Tab.keep (BoxD.out (by assumption)) hb2))
      ((go_at_call 27; refine (decimalF_eq _ _ _ (by omega) (by omega) (by go_split_ands; exact BoxD.out (by assumption)) hr).mono ?_; rintro e w' ⟨rfl, hb2⟩))
    all_goals
      go_wp2
      go_ret
      exact ⟨by rw [← hr]; rfl, by go_split_ands; assumption⟩
  · obtain ⟨W, hW, c0, c1, c2, c3, c4, c5, c6, c7, c8, hTW, hB⟩ := boxI r 7 w HT.out
    have hs1 : IntKind.i64.wrap ((7 : Int) - 1) = 6 := by rw [IntKind.wrap_i64]; omega
    have hs2 : IntKind.i64.wrap (6 : Int) = 6 := by rw [IntKind.wrap_i64]; omega
    go_enter Tryd.func10, Tryd.ntmps10
    go_wp2_with fail
    refine (withinE _ _ _ true _ h1).mono ?_
    rintro e w1 ⟨rfl, rfl⟩
    go_wp2_with fail
    refine (withinE _ _ _ true _ h2).mono ?_
    rintro e w1 ⟨rfl, rfl⟩
    clear hW
    go_wp2_with fail
    go_region_held3 (fun w' => w'.cell? ⟨w.heap.size, 0, none⟩ = some (.int .i64 r) ∧ w'.cell? ⟨w.heap.size, 1, none⟩ = some (.int .i64 7) ∧ w'.cell? ⟨w.heap.size + 1, 0, none⟩ = some (.string ⟨#[119, 111, 114, 100]⟩) ∧ w'.cell? ⟨w.heap.size + 1, 1, none⟩ = some (.string ⟨#[99, 111, 117, 110, 116]⟩) ∧ w'.cell? ⟨w.heap.size + 1, 2, none⟩ = some (.string ⟨#[110, 117, 109, 98, 101, 114]⟩) ∧ w'.cell? ⟨w.heap.size + 1, 3, none⟩ = some (.string ⟨#[115, 116, 114, 111, 107, 101]⟩) ∧ w'.cell? ⟨w.heap.size + 1, 4, none⟩ = some (.string ⟨#[111, 114, 100, 101, 114]⟩) ∧ w'.cell? ⟨w.heap.size + 1, 5, none⟩ = some (.string ⟨#[116, 119, 105, 99, 101]⟩) ∧ w'.cell? ⟨w.heap.size + 1, 6, none⟩ = some (.string ⟨#[102, 117, 108, 108]⟩) ∧ BoxD (Tab w') ∧ Below w.heap.size w w')
      (((try go_split_ands); (try dsimp only); (repeat' apply And.intro)) <;> first | assumption | exact keepd (by assumption) | exact Below.drew (by assumption) | exact keepc hb2 (by assumption) | exact belowT hb2 (by assumption) | exact BoxD.mk (Tab.drew (BoxD.out (by assumption))) | exact BoxD.mk (Tab.keep (BoxD.out (by assumption)) hb2))
      ((go_at_call 27; refine (decimalF_eq _ _ _ (by omega) (by omega) (by go_split_ands; exact BoxD.out (by assumption)) hr).mono ?_; rintro e w' ⟨rfl, hb2⟩))
    all_goals
      go_wp2
      go_ret
      exact ⟨by rw [← hr]; rfl, by go_split_ands; assumption⟩
set_option maxRecDepth 100000 in
set_option maxHeartbeats 4000000 in
theorem specReportText_any (r k : Int) (w : World) (hT : Tab w) : Calls Tryd.prog 8 #[.agg #[.int .i64 r, .int .i64 k]] w (TxPost (repT r k) w) := by
  have HT := BoxD.mk hT
  clear hT
  cases h1 : inB r 1 3001
  · have HV := Lib.hid (show repT r k = ⟨#[]⟩ by simp [repT, h1])
    rw [HV.out]
    go_enter Tryd.func8, Tryd.ntmps8
    go_wp2_with fail
    refine (l00InE _ _ _ false _ h1).mono ?_
    rintro e w1 ⟨rfl, rfl⟩
    go_wp2_with fail
    go_ret
    exact ⟨rfl, by go_grown⟩
  cases h2 : inB k 1 7
  · have HV := Lib.hid (show repT r k = ⟨#[]⟩ by simp [repT, h2])
    rw [HV.out]
    go_enter Tryd.func8, Tryd.ntmps8
    go_wp2_with fail
    refine (l00InE _ _ _ true _ h1).mono ?_
    rintro e w1 ⟨rfl, rfl⟩
    go_wp2_with fail
    refine (l00InE _ _ _ false _ h2).mono ?_
    rintro e w1 ⟨rfl, rfl⟩
    go_wp2_with fail
    go_ret
    exact ⟨rfl, by go_grown⟩
  obtain ⟨r0, r1⟩ := (inB_iff _ _ _).1 h1
  obtain ⟨k0, k1⟩ := (inB_iff _ _ _).1 h2
  have HV := Lib.hid (show repT r k = repX r k.toNat by simp [repT, h1, h2])
  rw [HV.out]
  obtain ⟨tr, hr, zr⟩ : ∃ t, dtx r = t ∧ t.size ≤ 20 := ⟨_, rfl, dtx_size (by omega)⟩
  have n1 : ¬ 9223372036854775807 < 4 + tr.size := by omega
  have n2 : ¬ 9223372036854775807 < 4 + tr.size + 2 := by omega
  have n3 : ¬ 9223372036854775807 < 4 + tr.size + 2 + 4 := by omega
  have n4 : ¬ 9223372036854775807 < 4 + tr.size + 2 + 5 := by omega
  have n5 : ¬ 9223372036854775807 < 4 + tr.size + 2 + 6 := by omega
  obtain rfl | rfl | rfl | rfl | rfl | rfl | rfl : k = 1 ∨ k = 2 ∨ k = 3 ∨ k = 4 ∨ k = 5 ∨ k = 6 ∨ k = 7 := by omega
  · obtain ⟨W, hW, c0, c1, c2, c3, c4, c5, c6, c7, c8, c9, hTW, hB⟩ := boxS r 1 w HT.out
    go_enter Tryd.func8, Tryd.ntmps8
    go_wp2_with fail
    refine (l00InE _ _ _ true _ h1).mono ?_
    rintro e w1 ⟨rfl, rfl⟩
    go_wp2_with fail
    refine (l00InE _ _ _ true _ h2).mono ?_
    rintro e w1 ⟨rfl, rfl⟩
    clear hW
    go_wp2_with fail
    go_region_held3 (fun w' => w'.cell? ⟨w.heap.size, 0, none⟩ = some (.int .i64 r) ∧ w'.cell? ⟨w.heap.size, 1, none⟩ = some (.int .i64 1) ∧ w'.cell? ⟨w.heap.size + 1, 0, none⟩ = some (.string ⟨#[]⟩) ∧ w'.cell? ⟨w.heap.size + 1, 1, none⟩ = some (.string ⟨#[119, 111, 114, 100]⟩) ∧ w'.cell? ⟨w.heap.size + 1, 2, none⟩ = some (.string ⟨#[99, 111, 117, 110, 116]⟩) ∧ w'.cell? ⟨w.heap.size + 1, 3, none⟩ = some (.string ⟨#[110, 117, 109, 98, 101, 114]⟩) ∧ w'.cell? ⟨w.heap.size + 1, 4, none⟩ = some (.string ⟨#[115, 116, 114, 111, 107, 101]⟩) ∧ w'.cell? ⟨w.heap.size + 1, 5, none⟩ = some (.string ⟨#[111, 114, 100, 101, 114]⟩) ∧ w'.cell? ⟨w.heap.size + 1, 6, none⟩ = some (.string ⟨#[116, 119, 105, 99, 101]⟩) ∧ w'.cell? ⟨w.heap.size + 1, 7, none⟩ = some (.string ⟨#[102, 117, 108, 108]⟩) ∧ BoxD (Tab w') ∧ Below w.heap.size w w')
      (((try go_split_ands); (try dsimp only); (repeat' apply And.intro)) <;> first | assumption | exact keepd (by assumption) | exact Below.drew (by assumption) | exact keepc hb2 (by assumption) | exact belowT hb2 (by assumption) | exact BoxD.mk (Tab.drew (BoxD.out (by assumption))) | exact BoxD.mk (Tab.keep (BoxD.out (by assumption)) hb2))
      ((go_at_call 25; refine (l01Dec_eq _ _ _ (by omega) (by omega) (by go_split_ands; exact BoxD.out (by assumption)) hr).mono ?_; rintro e w' ⟨rfl, hb2⟩))
    all_goals
      go_wp2
      go_ret
      exact ⟨by rw [← hr]; rfl, by go_split_ands; assumption⟩
  · obtain ⟨W, hW, c0, c1, c2, c3, c4, c5, c6, c7, c8, c9, hTW, hB⟩ := boxS r 2 w HT.out
    go_enter Tryd.func8, Tryd.ntmps8
    go_wp2_with fail
    refine (l00InE _ _ _ true _ h1).mono ?_
    rintro e w1 ⟨rfl, rfl⟩
    go_wp2_with fail
    refine (l00InE _ _ _ true _ h2).mono ?_
    rintro e w1 ⟨rfl, rfl⟩
    clear hW
    go_wp2_with fail
    go_region_held3 (fun w' => w'.cell? ⟨w.heap.size, 0, none⟩ = some (.int .i64 r) ∧ w'.cell? ⟨w.heap.size, 1, none⟩ = some (.int .i64 2) ∧ w'.cell? ⟨w.heap.size + 1, 0, none⟩ = some (.string ⟨#[]⟩) ∧ w'.cell? ⟨w.heap.size + 1, 1, none⟩ = some (.string ⟨#[119, 111, 114, 100]⟩) ∧ w'.cell? ⟨w.heap.size + 1, 2, none⟩ = some (.string ⟨#[99, 111, 117, 110, 116]⟩) ∧ w'.cell? ⟨w.heap.size + 1, 3, none⟩ = some (.string ⟨#[110, 117, 109, 98, 101, 114]⟩) ∧ w'.cell? ⟨w.heap.size + 1, 4, none⟩ = some (.string ⟨#[115, 116, 114, 111, 107, 101]⟩) ∧ w'.cell? ⟨w.heap.size + 1, 5, none⟩ = some (.string ⟨#[111, 114, 100, 101, 114]⟩) ∧ w'.cell? ⟨w.heap.size + 1, 6, none⟩ = some (.string ⟨#[116, 119, 105, 99, 101]⟩) ∧ w'.cell? ⟨w.heap.size + 1, 7, none⟩ = some (.string ⟨#[102, 117, 108, 108]⟩) ∧ BoxD (Tab w') ∧ Below w.heap.size w w')
      (((try go_split_ands); (try dsimp only); (repeat' apply And.intro)) <;> first | assumption | exact keepd (by assumption) | exact Below.drew (by assumption) | exact keepc hb2 (by assumption) | exact belowT hb2 (by assumption) | exact BoxD.mk (Tab.drew (BoxD.out (by assumption))) | exact BoxD.mk (Tab.keep (BoxD.out (by assumption)) hb2))
      ((go_at_call 25; refine (l01Dec_eq _ _ _ (by omega) (by omega) (by go_split_ands; exact BoxD.out (by assumption)) hr).mono ?_; rintro e w' ⟨rfl, hb2⟩))
    all_goals
      go_wp2
      go_ret
      exact ⟨by rw [← hr]; rfl, by go_split_ands; assumption⟩
  · obtain ⟨W, hW, c0, c1, c2, c3, c4, c5, c6, c7, c8, c9, hTW, hB⟩ := boxS r 3 w HT.out
    go_enter Tryd.func8, Tryd.ntmps8
    go_wp2_with fail
    refine (l00InE _ _ _ true _ h1).mono ?_
    rintro e w1 ⟨rfl, rfl⟩
    go_wp2_with fail
    refine (l00InE _ _ _ true _ h2).mono ?_
    rintro e w1 ⟨rfl, rfl⟩
    clear hW
    go_wp2_with fail
    go_region_held3 (fun w' => w'.cell? ⟨w.heap.size, 0, none⟩ = some (.int .i64 r) ∧ w'.cell? ⟨w.heap.size, 1, none⟩ = some (.int .i64 3) ∧ w'.cell? ⟨w.heap.size + 1, 0, none⟩ = some (.string ⟨#[]⟩) ∧ w'.cell? ⟨w.heap.size + 1, 1, none⟩ = some (.string ⟨#[119, 111, 114, 100]⟩) ∧ w'.cell? ⟨w.heap.size + 1, 2, none⟩ = some (.string ⟨#[99, 111, 117, 110, 116]⟩) ∧ w'.cell? ⟨w.heap.size + 1, 3, none⟩ = some (.string ⟨#[110, 117, 109, 98, 101, 114]⟩) ∧ w'.cell? ⟨w.heap.size + 1, 4, none⟩ = some (.string ⟨#[115, 116, 114, 111, 107, 101]⟩) ∧ w'.cell? ⟨w.heap.size + 1, 5, none⟩ = some (.string ⟨#[111, 114, 100, 101, 114]⟩) ∧ w'.cell? ⟨w.heap.size + 1, 6, none⟩ = some (.string ⟨#[116, 119, 105, 99, 101]⟩) ∧ w'.cell? ⟨w.heap.size + 1, 7, none⟩ = some (.string ⟨#[102, 117, 108, 108]⟩) ∧ BoxD (Tab w') ∧ Below w.heap.size w w')
      (((try go_split_ands); (try dsimp only); (repeat' apply And.intro)) <;> first | assumption | exact keepd (by assumption) | exact Below.drew (by assumption) | exact keepc hb2 (by assumption) | exact belowT hb2 (by assumption) | exact BoxD.mk (Tab.drew (BoxD.out (by assumption))) | exact BoxD.mk (Tab.keep (BoxD.out (by assumption)) hb2))
      ((go_at_call 25; refine (l01Dec_eq _ _ _ (by omega) (by omega) (by go_split_ands; exact BoxD.out (by assumption)) hr).mono ?_; rintro e w' ⟨rfl, hb2⟩))
    all_goals
      go_wp2
      go_ret
      exact ⟨by rw [← hr]; rfl, by go_split_ands; assumption⟩
  · obtain ⟨W, hW, c0, c1, c2, c3, c4, c5, c6, c7, c8, c9, hTW, hB⟩ := boxS r 4 w HT.out
    go_enter Tryd.func8, Tryd.ntmps8
    go_wp2_with fail
    refine (l00InE _ _ _ true _ h1).mono ?_
    rintro e w1 ⟨rfl, rfl⟩
    go_wp2_with fail
    refine (l00InE _ _ _ true _ h2).mono ?_
    rintro e w1 ⟨rfl, rfl⟩
    clear hW
    go_wp2_with fail
    go_region_held3 (fun w' => w'.cell? ⟨w.heap.size, 0, none⟩ = some (.int .i64 r) ∧ w'.cell? ⟨w.heap.size, 1, none⟩ = some (.int .i64 4) ∧ w'.cell? ⟨w.heap.size + 1, 0, none⟩ = some (.string ⟨#[]⟩) ∧ w'.cell? ⟨w.heap.size + 1, 1, none⟩ = some (.string ⟨#[119, 111, 114, 100]⟩) ∧ w'.cell? ⟨w.heap.size + 1, 2, none⟩ = some (.string ⟨#[99, 111, 117, 110, 116]⟩) ∧ w'.cell? ⟨w.heap.size + 1, 3, none⟩ = some (.string ⟨#[110, 117, 109, 98, 101, 114]⟩) ∧ w'.cell? ⟨w.heap.size + 1, 4, none⟩ = some (.string ⟨#[115, 116, 114, 111, 107, 101]⟩) ∧ w'.cell? ⟨w.heap.size + 1, 5, none⟩ = some (.string ⟨#[111, 114, 100, 101, 114]⟩) ∧ w'.cell? ⟨w.heap.size + 1, 6, none⟩ = some (.string ⟨#[116, 119, 105, 99, 101]⟩) ∧ w'.cell? ⟨w.heap.size + 1, 7, none⟩ = some (.string ⟨#[102, 117, 108, 108]⟩) ∧ BoxD (Tab w') ∧ Below w.heap.size w w')
      (((try go_split_ands); (try dsimp only); (repeat' apply And.intro)) <;> first | assumption | exact keepd (by assumption) | exact Below.drew (by assumption) | exact keepc hb2 (by assumption) | exact belowT hb2 (by assumption) | exact BoxD.mk (Tab.drew (BoxD.out (by assumption))) | exact BoxD.mk (Tab.keep (BoxD.out (by assumption)) hb2))
      ((go_at_call 25; refine (l01Dec_eq _ _ _ (by omega) (by omega) (by go_split_ands; exact BoxD.out (by assumption)) hr).mono ?_; rintro e w' ⟨rfl, hb2⟩))
    all_goals
      go_wp2
      go_ret
      exact ⟨by rw [← hr]; rfl, by go_split_ands; assumption⟩
  · obtain ⟨W, hW, c0, c1, c2, c3, c4, c5, c6, c7, c8, c9, hTW, hB⟩ := boxS r 5 w HT.out
    go_enter Tryd.func8, Tryd.ntmps8
    go_wp2_with fail
    refine (l00InE _ _ _ true _ h1).mono ?_
    rintro e w1 ⟨rfl, rfl⟩
    go_wp2_with fail
    refine (l00InE _ _ _ true _ h2).mono ?_
    rintro e w1 ⟨rfl, rfl⟩
    clear hW
    go_wp2_with fail
    go_region_held3 (fun w' => w'.cell? ⟨w.heap.size, 0, none⟩ = some (.int .i64 r) ∧ w'.cell? ⟨w.heap.size, 1, none⟩ = some (.int .i64 5) ∧ w'.cell? ⟨w.heap.size + 1, 0, none⟩ = some (.string ⟨#[]⟩) ∧ w'.cell? ⟨w.heap.size + 1, 1, none⟩ = some (.string ⟨#[119, 111, 114, 100]⟩) ∧ w'.cell? ⟨w.heap.size + 1, 2, none⟩ = some (.string ⟨#[99, 111, 117, 110, 116]⟩) ∧ w'.cell? ⟨w.heap.size + 1, 3, none⟩ = some (.string ⟨#[110, 117, 109, 98, 101, 114]⟩) ∧ w'.cell? ⟨w.heap.size + 1, 4, none⟩ = some (.string ⟨#[115, 116, 114, 111, 107, 101]⟩) ∧ w'.cell? ⟨w.heap.size + 1, 5, none⟩ = some (.string ⟨#[111, 114, 100, 101, 114]⟩) ∧ w'.cell? ⟨w.heap.size + 1, 6, none⟩ = some (.string ⟨#[116, 119, 105, 99, 101]⟩) ∧ w'.cell? ⟨w.heap.size + 1, 7, none⟩ = some (.string ⟨#[102, 117, 108, 108]⟩) ∧ BoxD (Tab w') ∧ Below w.heap.size w w')
      (((try go_split_ands); (try dsimp only); (repeat' apply And.intro)) <;> first | assumption | exact keepd (by assumption) | exact Below.drew (by assumption) | exact keepc hb2 (by assumption) | exact belowT hb2 (by assumption) | exact BoxD.mk (Tab.drew (BoxD.out (by assumption))) | exact BoxD.mk (Tab.keep (BoxD.out (by assumption)) hb2))
      ((go_at_call 25; refine (l01Dec_eq _ _ _ (by omega) (by omega) (by go_split_ands; exact BoxD.out (by assumption)) hr).mono ?_; rintro e w' ⟨rfl, hb2⟩))
    all_goals
      go_wp2
      go_ret
      exact ⟨by rw [← hr]; rfl, by go_split_ands; assumption⟩
  · obtain ⟨W, hW, c0, c1, c2, c3, c4, c5, c6, c7, c8, c9, hTW, hB⟩ := boxS r 6 w HT.out
    go_enter Tryd.func8, Tryd.ntmps8
    go_wp2_with fail
    refine (l00InE _ _ _ true _ h1).mono ?_
    rintro e w1 ⟨rfl, rfl⟩
    go_wp2_with fail
    refine (l00InE _ _ _ true _ h2).mono ?_
    rintro e w1 ⟨rfl, rfl⟩
    clear hW
    go_wp2_with fail
    go_region_held3 (fun w' => w'.cell? ⟨w.heap.size, 0, none⟩ = some (.int .i64 r) ∧ w'.cell? ⟨w.heap.size, 1, none⟩ = some (.int .i64 6) ∧ w'.cell? ⟨w.heap.size + 1, 0, none⟩ = some (.string ⟨#[]⟩) ∧ w'.cell? ⟨w.heap.size + 1, 1, none⟩ = some (.string ⟨#[119, 111, 114, 100]⟩) ∧ w'.cell? ⟨w.heap.size + 1, 2, none⟩ = some (.string ⟨#[99, 111, 117, 110, 116]⟩) ∧ w'.cell? ⟨w.heap.size + 1, 3, none⟩ = some (.string ⟨#[110, 117, 109, 98, 101, 114]⟩) ∧ w'.cell? ⟨w.heap.size + 1, 4, none⟩ = some (.string ⟨#[115, 116, 114, 111, 107, 101]⟩) ∧ w'.cell? ⟨w.heap.size + 1, 5, none⟩ = some (.string ⟨#[111, 114, 100, 101, 114]⟩) ∧ w'.cell? ⟨w.heap.size + 1, 6, none⟩ = some (.string ⟨#[116, 119, 105, 99, 101]⟩) ∧ w'.cell? ⟨w.heap.size + 1, 7, none⟩ = some (.string ⟨#[102, 117, 108, 108]⟩) ∧ BoxD (Tab w') ∧ Below w.heap.size w w')
      (((try go_split_ands); (try dsimp only); (repeat' apply And.intro)) <;> first | assumption | exact keepd (by assumption) | exact Below.drew (by assumption) | exact keepc hb2 (by assumption) | exact belowT hb2 (by assumption) | exact BoxD.mk (Tab.drew (BoxD.out (by assumption))) | exact BoxD.mk (Tab.keep (BoxD.out (by assumption)) hb2))
      ((go_at_call 25; refine (l01Dec_eq _ _ _ (by omega) (by omega) (by go_split_ands; exact BoxD.out (by assumption)) hr).mono ?_; rintro e w' ⟨rfl, hb2⟩))
    all_goals
      go_wp2
      go_ret
      exact ⟨by rw [← hr]; rfl, by go_split_ands; assumption⟩
  · obtain ⟨W, hW, c0, c1, c2, c3, c4, c5, c6, c7, c8, c9, hTW, hB⟩ := boxS r 7 w HT.out
    go_enter Tryd.func8, Tryd.ntmps8
    go_wp2_with fail
    refine (l00InE _ _ _ true _ h1).mono ?_
    rintro e w1 ⟨rfl, rfl⟩
    go_wp2_with fail
    refine (l00InE _ _ _ true _ h2).mono ?_
    rintro e w1 ⟨rfl, rfl⟩
    clear hW
    go_wp2_with fail
    go_region_held3 (fun w' => w'.cell? ⟨w.heap.size, 0, none⟩ = some (.int .i64 r) ∧ w'.cell? ⟨w.heap.size, 1, none⟩ = some (.int .i64 7) ∧ w'.cell? ⟨w.heap.size + 1, 0, none⟩ = some (.string ⟨#[]⟩) ∧ w'.cell? ⟨w.heap.size + 1, 1, none⟩ = some (.string ⟨#[119, 111, 114, 100]⟩) ∧ w'.cell? ⟨w.heap.size + 1, 2, none⟩ = some (.string ⟨#[99, 111, 117, 110, 116]⟩) ∧ w'.cell? ⟨w.heap.size + 1, 3, none⟩ = some (.string ⟨#[110, 117, 109, 98, 101, 114]⟩) ∧ w'.cell? ⟨w.heap.size + 1, 4, none⟩ = some (.string ⟨#[115, 116, 114, 111, 107, 101]⟩) ∧ w'.cell? ⟨w.heap.size + 1, 5, none⟩ = some (.string ⟨#[111, 114, 100, 101, 114]⟩) ∧ w'.cell? ⟨w.heap.size + 1, 6, none⟩ = some (.string ⟨#[116, 119, 105, 99, 101]⟩) ∧ w'.cell? ⟨w.heap.size + 1, 7, none⟩ = some (.string ⟨#[102, 117, 108, 108]⟩) ∧ BoxD (Tab w') ∧ Below w.heap.size w w')
      (((try go_split_ands); (try dsimp only); (repeat' apply And.intro)) <;> first | assumption | exact keepd (by assumption) | exact Below.drew (by assumption) | exact keepc hb2 (by assumption) | exact belowT hb2 (by assumption) | exact BoxD.mk (Tab.drew (BoxD.out (by assumption))) | exact BoxD.mk (Tab.keep (BoxD.out (by assumption)) hb2))
      ((go_at_call 25; refine (l01Dec_eq _ _ _ (by omega) (by omega) (by go_split_ands; exact BoxD.out (by assumption)) hr).mono ?_; rintro e w' ⟨rfl, hb2⟩))
    all_goals
      go_wp2
      go_ret
      exact ⟨by rw [← hr]; rfl, by go_split_ands; assumption⟩
end Go.Proofs.YtopefgahppfkcaaDoor
