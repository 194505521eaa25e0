/- Rows: along, l12Row, RowOf. -/
import Derived.Test.YtipelbhikomkiaaWord4
import Derived.Test.YtipelbhikomkiaaIntR
import Derived.Laws.BytesArg
namespace Go.Proofs.Ytipelbhikomkiaa
open Go.RowKit
set_option linter.unusedVariables false
set_option linter.unusedSimpArgs false

theorem info_u8 : (Try.prog.info? 5).map (fun i => (i.zero, i.size, i.bytes)) = some (some (.int .u8 0), 1, 1) := by kernel_rfl
/-- m bytes of the word, worked again and again, from byte f on. -/
def rowI (s : ByteArray) (f m : Nat) : List Int := (List.range m).map fun j => (bt s ((f + j) % s.size) : Int)
theorem rowI_len (s : ByteArray) (f m : Nat) : (rowI s f m).length = m := by simp [rowI]
theorem rowI_at {s : ByteArray} {f m k : Nat} (hk : k < m) : (rowI s f m)[k]? = some (bt s ((f + k) % s.size) : Int) := by
  unfold rowI
  rw [List.getElem?_map, List.getElem?_range hk]; rfl
theorem rowI_snoc (s : ByteArray) (f k : Nat) : rowI s f (k + 1) = rowI s f k ++ [(bt s ((f + k) % s.size) : Int)] := by
  unfold rowI
  rw [List.range_succ, List.map_append]; rfl
theorem ownB_conv {w : World} {base n : Nat} {v : Value} {xs : List Int} (h : w.ownsRow base 5 1 v n (xs.map (Value.int .u8))) : (convert 47 9 v).run Try.prog w = .ok (.string (strOfNums xs)) w := by
  rcases h.2 with ⟨h1, h2⟩ | ⟨g, cap, cur, hv, hg, hh, hc, hm, hs, ht⟩
  · subst h2
    have hx : xs = [] := by have := h.1; simpa using this
    subst hx
    subst h1
    exact run_convert_bytes_nil (P := Try.prog) w 47 5 Try.underlying47 Try.underlying5 _ _ 9 Try.underlying9
  · subst hv
    have hl : xs.length = n := by have := h.1; simpa using this
    refine run_convert_bytes_arg (P := Try.prog) w 47 5 Try.underlying47 Try.underlying5 g 0 n cap xs hl (fun i hi => ?_) 9 Try.underlying9
    rw [Nat.zero_add, World.ownsRow.cellAt h i (by omega), List.getElem?_map, List.getD_eq_getElem?_getD, List.getElem?_eq_getElem (by omega)]
    rfl
theorem along_mod {s f k : Nat} (h : 1 ≤ s) : 0 ≤ ((f : Int) + (k : Int)) % (s : Int) ∧ ((f : Int) + (k : Int)) % (s : Int) < (s : Int) ∧ (((f : Int) + (k : Int)) % (s : Int)).toNat = (f + k) % s ∧ (f + k) % s < s := by
  have := mod_facts (k := f + k) h
  rw [Int.natCast_add] at this
  exact this

theorem along_any (s : ByteArray) (f m : Nat) (F : Int) (hF : F = (f : Int)) (w : World) (l1 : 1 ≤ s.size) (l2 : s.size ≤ 12) (hf : f ≤ 10000) (hm : m ≤ 100) : Calls Try.prog 55 #[.string s, .int .i64 F, .int .i64 1, .int .i64 m] w fun e w' =>
    e = .returned (.string (strOfNums (rowI s f m))) ∧ Below w.heap.size w w' := by
  subst hF
  obtain ⟨i0, hi0, hz0, hz1, hz2⟩ := info_parts info_u8
  have hbytes : i0.bytes * m ≤ 281474976710656 := by rw [hz2]; omega
  have hmx : m ≤ maxLen := by unfold maxLen; omega
  have hlen : ((rowI s f m).map (Value.int .u8)).length = m := by simp [rowI_len]
  have e0 : (madeCells #[Value.int .u8 0] (m * 1)).toList = ((rowI s f m).map (Value.int .u8)).take 0 ++ List.replicate (((rowI s f m).map (Value.int .u8)).length - 0) (.int .u8 0) := by
    rw [toList_madeCells_one, hlen]; simp
  have E0 := Lib.hid e0
  have HL := Lib.hid hlen
  clear e0 hlen
  go_enter Try.func55, Try.ntmps55
  go_wp2_with (at_make; refine wpList_make_full _ rfl _ _ _ rfl w.heap.size 5 i0 (.int .u8 0) 1 Try.underlying47 hi0 hz0 hz1 .i64 .i64 m m m rfl rfl rfl rfl hbytes hmx (Nat.le_refl _) ?_; intro w1 hown hg)
  have hb1 : Below w.heap.size w w1 := (Below.refl _ _).grown hg (Nat.le_refl _) (by simp)
  replace hown : w1.ownsRow w.heap.size 5 1 (.slice (some ⟨w.heap.size, 0, none⟩) m m) m (((rowI s f m).map (Value.int .u8)).take 0 ++ List.replicate (((rowI s f m).map (Value.int .u8)).length - 0) (.int .u8 0)) := by
    rw [← E0.out]; exact hown
  go_loopw [14] (fun i wr => ∃ k : Nat, k ≤ m ∧ i = .int .i64 k ∧ wr.ownsRow w.heap.size 5 1 (.slice (some ⟨w.heap.size, 0, none⟩) m m) m (((rowI s f m).map (Value.int .u8)).take k ++ List.replicate (((rowI s f m).map (Value.int .u8)).length - k) (.int .u8 0)) ∧ Below w.heap.size w wr) (fun i _ => m - (intOf i).toNat)
  case atStart => exact ⟨0, Nat.zero_le _, rfl, hown, hb1⟩
  case round =>
    clear hown hb1 hg
    obtain ⟨k, hk, rfl, hown, hb1⟩ := hrel
    by_cases hlt : k < m
    · obtain ⟨ra0, ra1, ra2, ra3⟩ := along_mod (f := f) (k := k) l1
      have hx : ((rowI s f m).map (Value.int .u8))[k]? = some (.int .u8 ((s[(f + k) % s.size]'ra3).toNat : Int)) := by
        rw [List.getElem?_map, rowI_at hlt, bt_eq]; rfl
      have Hx := Lib.hid hx
      obtain ⟨u3, hu3⟩ : ∃ u, wr.cell? ⟨w.heap.size, k, none⟩ = some u := by
        rw [World.ownsRow.cellAt hown k (by omega)]
        have := hown.1
        exact ⟨_, List.getElem?_eq_getElem (by omega)⟩
      have hfr := World.ownsRow.frozenAt hown k
      clear hx
      go_wp2
      go_roundw
      case rel =>
        refine ⟨k + 1, by omega, by go_num, ?_, hb1.setCell (Nat.le_refl _) _⟩
        have hs := (World.ownsRow.stored hown k (.int .u8 ((s[(f + k) % s.size]'ra3).toNat : Int))).1
        rw [set_step _ _ _ _ (by rw [HL.out]; exact hlt) Hx.out] at hs
        exact hs
      case measure => simp [intOf]; omega
    · obtain rfl : k = m := by omega
      have e1 : ((rowI s f k).map (Value.int .u8)).take k ++ List.replicate (((rowI s f k).map (Value.int .u8)).length - k) (.int .u8 0) = (rowI s f k).map (Value.int .u8) := by
        rw [List.take_of_length_le (by rw [HL.out]; omega), HL.out]; simp
      rw [e1] at hown
      have kc := ownB_conv hown
      go_wp2
      go_ret
      exact ⟨rfl, hb1⟩
theorem ownB_app {w1 : World} {base q : Nat} {v1 : Value} {xs ys : List Value} (h : w1.ownsRow base 5 1 v1 (q + 1) (xs ++ ys)) : ∃ C p, v1 = .slice C (q + 1) p ∧ w1.ownsRow base 5 1 (.slice C (q + 1) p) (q + 1) (xs ++ ys) := by
  rcases h.2 with ⟨_, h0⟩ | ⟨g, cap, cur, hv, _⟩
  · omega
  · subst hv; exact ⟨_, _, rfl, h⟩
theorem l12Row_any (s : ByteArray) (r m : Nat) (w : World) (l1 : 1 ≤ s.size) (l2 : s.size ≤ 12) (hr : r ≤ 100) (hm : m ≤ 100) : Calls Try.prog 54 #[.string s, .int .i64 m, .int .i64 r] w fun e w' =>
    e = .returned (.string (strOfNums (rowI s (r * m) m))) ∧ Below w.heap.size w w' := by
  obtain ⟨i0, hi0, hz0, hz1, hz2⟩ := info_parts info_u8
  have hp := mulb (x := (r : Int)) (y := (m : Int)) (A := 100) (B := 100) (by omega) (by omega) (by omega) (by omega)
  have hc : (r : Int) * (m : Int) = ((r * m : Nat) : Int) := by push_cast; rfl
  have HC := Lib.hid hc
  clear hc
  go_enter Try.func54, Try.ntmps54
  go_wp2
  go_loopw [7, 8] (fun v i wr => ∃ k : Nat, k ≤ m ∧ i = .int .i64 k ∧ (∃ C p, v = .slice C k p ∧ wr.ownsRow w.heap.size 5 1 (.slice C k p) k ((rowI s (r * m) k).map (Value.int .u8))) ∧ Below w.heap.size w wr) (fun _ i _ => m - (intOf i).toNat)
  case atStart =>
    refine ⟨0, Nat.zero_le _, rfl, ⟨_, _, rfl, ?_⟩, ?_⟩
    · exact World.ownsRow_made _ _ _ (by simp) (by unfold maxLen; omega) (by simp)
    · (repeat' (first | (with_reducible exact Below.refl _ _) | (with_reducible assumption) | (with_reducible refine Below.drew ?_) | (with_reducible refine below_drewN ?_ _) | (with_reducible refine Below.setCell ?_ ?_ _) | (with_reducible refine Below.alloc ?_ ?_ _) | go_size))
  case round =>
    obtain ⟨k, hk, rfl, ⟨C, p, rfl, hown⟩, hB⟩ := hrel
    have hbs := hB.size
    by_cases hlt : k < m
    · obtain ⟨ra0, ra1, ra2, ra3⟩ := along_mod (f := r * m) (k := k) l1
      rw [← HC.out] at ra0 ra1 ra2
      have hs := rowI_snoc s (r * m) k
      rw [← bt_eq ra3] at hs
      have HS := Lib.hid hs
      clear hs
      go_wp2_with (at_builtin; refine wpList_append_own _ rfl _ _ 47 rfl w.heap.size 5 i0 (.int .u8 0) 1 1 Try.underlying47 hi0 hz0 hz1 hz2 rfl (by decide) _ _ _ rfl (hown.alloc _) ⟨_, 0, none⟩ 1 1 [.int .u8 ((s[(r * m + k) % s.size]'ra3).toNat : Int)] rfl rfl (cell_one_new _ _ _) (ints_oneCell .u8 [((s[(r * m + k) % s.size]'ra3).toNat : Int)]) (by unfold maxLen; omega) (by omega) (by simp; omega) ?_; intro v1 w1 hown1 hgrow1 _)
      go_roundw
      case rel =>
        obtain ⟨C', p', rfl, hown'⟩ := ownB_app hown1
        refine ⟨k + 1, by omega, by go_num, ⟨_, _, rfl, ?_⟩, below_app hB hown hgrow1⟩
        rw [HS.out, List.map_append]
        exact hown'
      case measure => simp [intOf]; omega
    · obtain rfl : k = m := by omega
      have kc := ownB_conv hown
      go_wp2
      go_ret
      exact ⟨rfl, hB⟩
end Go.Proofs.Ytipelbhikomkiaa
