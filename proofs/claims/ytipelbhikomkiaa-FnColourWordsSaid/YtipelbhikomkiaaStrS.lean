/- Slices of strings: copies, sizes, comparisons. -/
import Derived.Test.YtipelbhikomkiaaStr
import Derived.Deep.Strs
namespace Go.Proofs.Ytipelbhikomkiaa
open Go.RowKit
set_option linter.unusedVariables false
set_option linter.unusedSimpArgs false

theorem info_str : (Try.prog.info? 9).map (fun i => (i.zero, i.size, i.bytes)) = some (some (.string ⟨#[]⟩), 1, 16) := by kernel_rfl
structure Box0 (p : Prop) : Prop where
  out : p
/-- The slice A, n reads as the texts ss. -/
def Strs (w : World) (A : Option Addr) (n : Nat) (ss : List ByteArray) : Prop :=
  ss.length = n ∧ (0 < n → ∃ b off, A = some ⟨b, off, none⟩ ∧ b < w.heap.size ∧ ∀ j s, ss[j]? = some s → w.cell? ⟨b, off + j, none⟩ = some (.string s))
theorem Strs.keep {w w' : World} {A : Option Addr} {n : Nat} {ss : List ByteArray} (h : Strs w A n ss) (hb : Below w.heap.size w w') : Strs w' A n ss :=
  ⟨h.1, fun hn => by
    obtain ⟨b, off, e, hlt, hc⟩ := h.2 hn
    exact ⟨b, off, e, Nat.lt_of_lt_of_le hlt hb.size, fun j z hz => (hb.cell (p := ⟨b, off + j, none⟩) hlt).trans (hc j z hz)⟩⟩
theorem Strs.drewN {w : World} {A : Option Addr} {n : Nat} {ss : List ByteArray} (h : Strs w A n ss) (k : Nat) : Strs (w.drewN k) A n ss := h
theorem Strs.at_ {w : World} {A : Option Addr} {n : Nat} {ss : List ByteArray} (h : Strs w A n ss) {k : Nat} (hk : k < n) :
    ∃ b off s, A = some ⟨b, off, none⟩ ∧ b < w.heap.size ∧ ss[k]? = some s ∧ w.cell? ⟨b, off + k, none⟩ = some (.string s) := by
  obtain ⟨b, off, e, hb, hc⟩ := h.2 (by omega)
  have hz : ss[k]? = some (ss[k]'(by rw [h.1]; exact hk)) := List.getElem?_eq_getElem _
  exact ⟨b, off, _, e, hb, hz, hc _ _ hz⟩
def IsStrs (w : World) (A : Option Addr) (n : Nat) (ss : List ByteArray) : Prop :=
  n ≤ maxLen ∧ Strs w A n ss ∧ ∀ s ∈ ss, s.size ≤ maxLen
section
open Go.ChangeShapes Go.WideShapes
theorem isStrs_of_trod {H : Type} {enc : TypeId × Value → H} {P : Program} {W : World} {base : Nat} {spare : Nat → Bool} {held : Bool} {t e : TypeId} {fuel : Nat} {A : Option Addr} {n c : Nat} {x : DataW H × List MemPlace}
    (ht : P.underlying t = some (.slice e)) (he : P.underlying e = some .string) (hc : P.cellsOf e = 1) (hf : DataW.trod enc P W base spare held fuel t (Value.cells (.slice A n c)).toList = some x) : ∃ ss, IsStrs W A n ss := by
  rcases Deep.open_strs ht he hc hf with ⟨hcs, _⟩ | ⟨a, l, c', m, Sx, hcs, _, hl, hm, hz, _, hx⟩
  · simp [Value.cells] at hcs
    obtain ⟨rfl, rfl, rfl⟩ := hcs
    exact ⟨[], Nat.zero_le _, ⟨rfl, fun h => absurd h (by omega)⟩, fun z hz => by simp at hz⟩
  · simp [Value.cells] at hcs
    obtain ⟨rfl, rfl, rfl⟩ := hcs
    have hle : n ≤ m := by rw [hz]; split <;> omega
    refine ⟨(List.range n).map Sx, by omega, ⟨by simp, fun hn => ?_⟩, fun z hz => ?_⟩
    · have h0 := (hx 0 (by omega)).1
      obtain ⟨b, off, spot⟩ := a
      have hspot : spot = none := by simpa [Addr.add] using World.cell?_spot h0
      subst hspot
      have hadd : ∀ j, (⟨b, off, none⟩ : Addr).add j = ⟨b, off + j, none⟩ := fun j => by unfold Addr.add; split <;> simp_all
      refine ⟨b, off, rfl, ?_, fun j z hj => ?_⟩
      · have := World.block_lt_of_cell? W _ h0
        rw [hadd] at this
        exact this
      · have hjn : j < n := by
          have := (List.getElem?_eq_some_iff.1 hj).1
          simpa using this
        rw [List.getElem?_map, List.getElem?_range hjn] at hj
        injection hj with hj
        have := (hx j (by omega)).1
        rw [hadd, hj] at this
        exact this
    · obtain ⟨j, hj, rfl⟩ := List.mem_map.1 hz
      exact (hx j (by have := List.mem_range.1 hj; omega)).2
end
def SzPost (n : Nat) (w : World) (e : Ending) (w' : World) : Prop := ∃ v : Int, e = .returned (.int .i64 v) ∧ w = w' ∧ (0 ≤ v → n ≤ 1048576)
theorem szStrS_any (A : Option Addr) (n c : Nat) (ss : List ByteArray) (w : World) (h : IsStrs w A n ss) : Calls Try.prog 31 #[.slice A n c, .int .i64 1048576] w (SzPost n w) := by
  have hm := h.1
  unfold maxLen at hm
  have hS := Box0.mk h.2.2
  have h := h.2.1
  by_cases hb : 1048576 < n
  · have t1 : (1048576 : Int) - (n : Int) < 0 := by omega
    go_enter Try.func31, Try.ntmps31
    go_wp2
    go_ret
    exact ⟨_, rfl, rfl, fun h => by omega⟩
  have t1 : ¬ (1048576 : Int) - (n : Int) < 0 := by omega
  have hn : n ≤ 1048576 := by omega
  go_enter Try.func31, Try.ntmps31
  go_wp2
  go_loop [1, 5] (fun l i => ∃ (k : Nat) (v : Int), k ≤ n ∧ i = .int .i64 k ∧ l = .int .i64 v ∧ 0 ≤ v ∧ v ≤ 1048576) (fun _ i => n - (intOf i).toNat)
  case atStart => exact ⟨0, _, Nat.zero_le _, rfl, rfl, by omega, by omega⟩
  case round =>
    obtain ⟨k, v, hk, rfl, rfl, v0, v1⟩ := hrel
    by_cases hlt : k < n
    · obtain ⟨b, off, s, rfl, hblt, hs, hcell⟩ := h.at_ hlt
      have hsz := hS.out s (List.mem_of_getElem? hs)
      unfold maxLen at hsz
      clear hs
      by_cases hv : v - (s.size : Int) < 0
      · go_wp2
        go_ret
        exact ⟨_, rfl, rfl, fun _ => hn⟩
      · go_wp2
        go_round
        case rel => exact ⟨k + 1, _, by omega, by go_num, rfl, by omega, by omega⟩
        case measure => simp [intOf]; omega
    · obtain rfl : k = n := by omega
      go_wp2
      go_ret
      exact ⟨_, rfl, rfl, fun _ => hn⟩
abbrev OwnS (w : World) (base : Nat) (v : Value) (n : Nat) (ss : List ByteArray) : Prop := w.ownsRow base 9 1 v n (ss.map Value.string)
theorem OwnS.strs {w : World} {base : Nat} {A : Option Addr} {n c : Nat} {ss : List ByteArray} (h : OwnS w base (.slice A n c) n ss) : Strs w A n ss := by
  refine ⟨by simpa using h.1, fun hn => ?_⟩
  rcases h.2 with ⟨h1, h2⟩ | ⟨g, cap, cur, hv, hg, hh, hc, hm, hs, ht⟩
  · omega
  · have hA : A = some ⟨g, 0, none⟩ ∧ c = cap := by simpa using hv
    obtain ⟨rfl, rfl⟩ := hA
    refine ⟨g, 0, rfl, (World.ownsRow.lt h g (by simp [Value.ownBlock])).2, fun j z hz => ?_⟩
    have hj : j < n := by
      have := (List.getElem?_eq_some_iff.1 hz).1
      have := h.1
      simp at this
      omega
    rw [Nat.zero_add, World.ownsRow.cellAt h j (by omega), List.getElem?_map, hz]
    rfl
theorem toStrS_any (A : Option Addr) (n c : Nat) (ss : List ByteArray) (w : World) (h : Strs w A n ss) (hn : n ≤ 1048576) : Calls Try.prog 33 #[.slice A n c] w fun e w' =>
    e = .returned (.slice (some ⟨w.heap.size, 0, none⟩) n n) ∧ OwnS w' w.heap.size (.slice (some ⟨w.heap.size, 0, none⟩) n n) n ss ∧ Below w.heap.size w w' := by
  obtain ⟨i0, hi0, hz0, hz1, hz2⟩ := info_parts info_str
  have hbytes : i0.bytes * n ≤ 281474976710656 := by rw [hz2]; omega
  have hmx : n ≤ maxLen := by unfold maxLen; omega
  have hlen := h.1
  have e0 : (madeCells #[Value.string ⟨#[]⟩] (n * 1)).toList = (ss.map Value.string).take 0 ++ List.replicate ((ss.map Value.string).length - 0) (.string ⟨#[]⟩) := by
    rw [toList_madeCells_one]; simp [hlen]
  have E0 := Lib.hid e0
  have HL := Lib.hid hlen
  clear e0 hlen
  go_enter Try.func33, Try.ntmps33
  go_wp2_with (at_make; refine wpList_make_full _ rfl _ _ _ rfl w.heap.size 9 i0 (.string ⟨#[]⟩) 1 Try.underlying39 hi0 hz0 hz1 .i64 .i64 n n n rfl rfl rfl rfl hbytes hmx (Nat.le_refl _) ?_; intro w1 hown hg)
  have hb1 : Below w.heap.size w w1 := (Below.refl _ _).grown hg (Nat.le_refl _) (by simp)
  replace hown : w1.ownsRow w.heap.size 9 1 (.slice (some ⟨w.heap.size, 0, none⟩) n n) n ((ss.map Value.string).take 0 ++ List.replicate ((ss.map Value.string).length - 0) (.string ⟨#[]⟩)) := by
    rw [← E0.out]; exact hown
  go_loopw [4] (fun i wr => ∃ k : Nat, k ≤ n ∧ i = .int .i64 k ∧ wr.ownsRow w.heap.size 9 1 (.slice (some ⟨w.heap.size, 0, none⟩) n n) n ((ss.map Value.string).take k ++ List.replicate ((ss.map Value.string).length - k) (.string ⟨#[]⟩)) ∧ Below w.heap.size w wr) (fun i _ => n - (intOf i).toNat)
  case atStart => exact ⟨0, Nat.zero_le _, rfl, hown, hb1⟩
  case round =>
    clear hown hb1 hg
    obtain ⟨k, hk, rfl, hown, hb1⟩ := hrel
    by_cases hlt : k < n
    · obtain ⟨b, off, z, rfl, hblt, hz, hcell⟩ := (h.keep hb1).at_ hlt
      have Hz := Lib.hid hz
      obtain ⟨u3, hu3⟩ : ∃ u, wr.cell? ⟨w.heap.size, k, none⟩ = some u := by
        rw [World.ownsRow.cellAt hown k (by omega)]
        have := hown.1
        exact ⟨_, List.getElem?_eq_getElem (by omega)⟩
      have hfr := World.ownsRow.frozenAt hown k
      clear hz
      go_wp2
      go_roundw
      case rel =>
        refine ⟨k + 1, by omega, by go_num, ?_, hb1.setCell (Nat.le_refl _) _⟩
        have hs := (World.ownsRow.stored hown k (.string z)).1
        rw [set_step _ _ _ _ (by simp; rw [HL.out]; exact hlt) (by rw [List.getElem?_map, Hz.out]; rfl)] at hs
        exact hs
      case measure => simp [intOf]; omega
    · obtain rfl : k = n := by omega
      go_wp2
      go_ret
      refine ⟨rfl, ?_, hb1⟩
      have e1 : (ss.map Value.string).take k ++ List.replicate ((ss.map Value.string).length - k) (.string ⟨#[]⟩) = ss.map Value.string := by
        rw [List.take_of_length_le (by simp; rw [HL.out]; omega)]; simp [HL.out]
      rw [e1] at hown
      exact hown
theorem eqStrS_same (A B : Option Addr) (n c d : Nat) (ss : List ByteArray) (w : World) (h : Strs w A n ss) (g : Strs w B n ss) (hn : n ≤ 1048576) : Calls Try.prog 35 #[.slice A n c, .slice B n d] w fun e w' =>
    e = .returned (.bool true) ∧ Below w.heap.size w w' := by
  have hne : ((n : Int) != (n : Int)) = false := by simp
  go_enter Try.func35, Try.ntmps35
  go_wp2
  go_loopw [5] (fun i wr => ∃ k : Nat, k ≤ n ∧ i = .int .i64 k ∧ ∃ q, wr = w.drewN q) (fun i _ => n - (intOf i).toNat)
  case atStart => exact ⟨0, Nat.zero_le _, rfl, 0, rfl⟩
  case round =>
    obtain ⟨k, hk, rfl, nw, rfl⟩ := hrel
    by_cases hlt : k < n
    · obtain ⟨b, off, z, rfl, hblt, hz, hcz⟩ := h.at_ hlt
      obtain ⟨b2, off2, y, rfl, hblt2, hy, hcy⟩ := g.at_ hlt
      obtain rfl : z = y := by rw [hz] at hy; injection hy
      clear hz hy
      have k0 : (0 : Int) ≤ (k : Int) := by omega
      have k1 : (k : Int) < (n : Int) := by omega
      have ht : (z.toList == z.toList) = true := by simp
      go_wp2
      go_quiet (fail)
      go_wp2
      go_roundw
      case rel => exact ⟨k + 1, by omega, by go_num, (by first | exact ⟨_, rfl⟩ | exact drew2 _ _ _ | exact ⟨0, rfl⟩)⟩
      case measure => simp [intOf]; omega
    · obtain rfl : k = n := by omega
      go_wp2
      go_ret
      exact ⟨rfl, below_drewN (Below.refl _ _) _⟩
end Go.Proofs.Ytipelbhikomkiaa
