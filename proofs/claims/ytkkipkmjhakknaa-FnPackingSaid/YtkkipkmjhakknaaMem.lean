/- Contracts of the copies, comparisons and marks of slices of int64. -/
import Derived.Test.YtkkipkmjhakknaaBase
import Derived.Deep.Slices
import Derived.ShutString
import Derived.ChangeOld
namespace Go.Proofs.Ytkkipkmjhakknaa
open Go.RowKit
set_option linter.unusedVariables false
set_option linter.unusedSimpArgs false

theorem info_i64 : (Try.prog.info? 2).map (fun i => (i.zero, i.size, i.bytes)) = some (some (.int .i64 0), 1, 8) := by kernel_rfl

/-- The slice A, n reads as the numbers zs. -/
def Ints (w : World) (A : Option Addr) (n : Nat) (zs : List Int) : Prop :=
  zs.length = n ∧ (0 < n → ∃ b off, A = some ⟨b, off, none⟩ ∧ b < w.heap.size ∧ ∀ j z, zs[j]? = some z → w.cell? ⟨b, off + j, none⟩ = some (.int .i64 z))
theorem Ints.keep {w w' : World} {A : Option Addr} {n : Nat} {zs : List Int} (h : Ints w A n zs) (hb : Below w.heap.size w w') : Ints w' A n zs :=
  ⟨h.1, fun hn => by
    obtain ⟨b, off, e, hlt, hc⟩ := h.2 hn
    exact ⟨b, off, e, Nat.lt_of_lt_of_le hlt hb.size, fun j z hz => (hb.cell (p := ⟨b, off + j, none⟩) hlt).trans (hc j z hz)⟩⟩
theorem Ints.drewN {w : World} {A : Option Addr} {n : Nat} {zs : List Int} (h : Ints w A n zs) (k : Nat) : Ints (w.drewN k) A n zs := h
theorem Ints.alloc {w : World} {A : Option Addr} {n : Nat} {zs : List Int} (h : Ints w A n zs) (o : Obj) : Ints (w.alloc o) A n zs := h.keep ((Below.refl _ _).alloc (Nat.le_refl _) o)
theorem Ints.at_ {w : World} {A : Option Addr} {n : Nat} {zs : List Int} (h : Ints w A n zs) {k : Nat} (hk : k < n) :
    ∃ b off z, A = some ⟨b, off, none⟩ ∧ b < w.heap.size ∧ zs[k]? = some z ∧ w.cell? ⟨b, off + k, none⟩ = some (.int .i64 z) := by
  obtain ⟨b, off, e, hb, hc⟩ := h.2 (by omega)
  have hz : zs[k]? = some (zs[k]'(by rw [h.1]; exact hk)) := List.getElem?_eq_getElem _
  exact ⟨b, off, _, e, hb, hz, hc _ _ hz⟩

/-- What the row's step hands on of a slice of integers that came in. -/
def IsInts (k : IntKind) (w : World) (A : Option Addr) (n : Nat) (zs : List Int) : Prop :=
  n ≤ maxLen ∧ zs.length = n ∧ (0 < n → ∃ b off, A = some ⟨b, off, none⟩ ∧ b < w.heap.size ∧ ∀ j z, zs[j]? = some z → w.cell? ⟨b, off + j, none⟩ = some (.int k z)) ∧ ∀ z ∈ zs, (Lit.int k z).wf = true
theorem IsInts.ints {w : World} {A : Option Addr} {n : Nat} {zs : List Int} (h : IsInts .i64 w A n zs) : Ints w A n zs := ⟨h.2.1, h.2.2.1⟩

section
open Go.ChangeShapes Go.WideShapes
theorem isInts_of_trod {H : Type} {enc : TypeId × Value → H} {P : Program} {W : World} {base : Nat} {spare : Nat → Bool} {held : Bool} {t e : TypeId} {k : IntKind} {fuel : Nat} {A : Option Addr} {n c : Nat} {x : DataW H × List MemPlace}
    (ht : P.underlying t = some (.slice e)) (he : P.underlying e = some (.int k)) (hc : P.cellsOf e = 1) (hf : DataW.trod enc P W base spare held fuel t (Value.cells (.slice A n c)).toList = some x) : ∃ zs, IsInts k W A n zs := by
  rcases open_ints ht he hc hf with ⟨hcs, _⟩ | ⟨a, l, c', zs, hcs, _, hl, hm, hz, _, hcell, hwz⟩
  · simp [Value.cells] at hcs
    obtain ⟨rfl, rfl, rfl⟩ := hcs
    exact ⟨[], Nat.zero_le _, rfl, fun h => absurd h (by omega), fun z hz => by simp at hz⟩
  · simp [Value.cells] at hcs
    obtain ⟨rfl, rfl, rfl⟩ := hcs
    have hle : n ≤ zs.length := by rw [hz]; split <;> omega
    refine ⟨zs.take n, by omega, by simp; omega, fun hn => ?_, fun z hz => hwz z (List.mem_of_mem_take hz)⟩
    have h0 := hcell 0 (by omega)
    obtain ⟨b, off, spot⟩ := a
    have hspot : spot = none := by simpa [Addr.add] using World.cell?_spot h0
    subst hspot
    have hadd : ∀ j, (⟨b, off, none⟩ : Addr).add j = ⟨b, off + j, none⟩ := fun j => by unfold Addr.add; split <;> simp_all
    refine ⟨b, off, rfl, ?_, fun j z hj => ?_⟩
    · have := World.block_lt_of_cell? W _ h0
      rw [hadd] at this
      exact this
    · have hjn : j < n := by
        have := (List.getElem?_eq_some_iff.1 hj).1
        simp at this
        omega
      rw [List.getElem?_take, if_pos hjn] at hj
      have := hcell j (by omega)
      rw [hadd, List.getD_eq_getElem?_getD, hj] at this
      exact this
end

abbrev OwnI (w : World) (base : Nat) (v : Value) (n : Nat) (zs : List Int) : Prop := w.ownsRow base 2 1 v n (zs.map (Value.int .i64))
theorem OwnI.ints {w : World} {base : Nat} {A : Option Addr} {n c : Nat} {zs : List Int} (h : OwnI w base (.slice A n c) n zs) : Ints w A n zs := by
  refine ⟨by simpa using h.1, fun hn => ?_⟩
  rcases h.2 with ⟨h1, h2⟩ | ⟨g, cap, cur, hv, hg, hh, hc, hm, hs, ht⟩
  · omega
  · have hA : A = some ⟨g, 0, none⟩ ∧ c = cap := by simpa using hv
    obtain ⟨rfl, rfl⟩ := hA
    refine ⟨g, 0, rfl, (World.ownsRow.lt h g (by simp [Value.ownBlock])).2, fun j z hz => ?_⟩
    have hj : j < n := by
      have := (List.getElem?_eq_some_iff.1 hz).1
      have := h.1
      simp at this
      omega
    rw [Nat.zero_add, World.ownsRow.cellAt h j (by omega), List.getElem?_map, hz]
    rfl

theorem World.grownBy.trans' {a b c : World} {r : Option Nat} (h : a.grownBy b r) (k : b.grownBy c r) : a.grownBy c r :=
  ⟨k.os.trans h.os, k.tape.trans h.tape, k.output.trans h.output, Nat.le_trans h.size k.size, fun i hi hne => (k.block i (Nat.lt_of_lt_of_le hi h.size) hne).trans (h.block i hi hne)⟩

theorem set_step {α : Type} (L : List α) (z u : α) (k : Nat) (hk : k < L.length) (hu : L[k]? = some u) : (L.take k ++ List.replicate (L.length - k) z).set k u = L.take (k + 1) ++ List.replicate (L.length - (k + 1)) z := by
  apply List.ext_getElem?
  intro j
  rw [List.getElem?_set]
  by_cases h : k = j
  · subst h
    rw [if_pos rfl, if_pos (by simp; omega), List.getElem?_append_left (by simp; omega), List.getElem?_take, if_pos (by omega), hu]
  · rw [if_neg h]
    by_cases hj : j < k
    · rw [List.getElem?_append_left (by simp; omega), List.getElem?_append_left (by simp; omega), List.getElem?_take, List.getElem?_take, if_pos hj, if_pos (by omega)]
    · rw [List.getElem?_append_right (by simp; omega), List.getElem?_append_right (by simp; omega)]
      simp only [List.length_take, List.getElem?_replicate]
      congr 1
      have : min k L.length = k := by omega
      have : min (k + 1) L.length = k + 1 := by omega
      simp only [*]
      apply propext
      constructor <;> intro <;> omega

theorem OwnI.full {w : World} {base g n c : Nat} {xs : List Value} (h : w.ownsRow base 2 1 (.slice (some ⟨g, 0, none⟩) n c) n xs) {k : Nat} (hk : k < n) : ∃ u, w.cell? ⟨g, k, none⟩ = some u := by
  rw [World.ownsRow.cellAt h k (by omega)]
  have := h.1
  exact ⟨xs[k]'(by omega), List.getElem?_eq_getElem _⟩

theorem toInt64S_any (A : Option Addr) (n c : Nat) (zs : List Int) (w : World) (h : Ints w A n zs) (hn : n ≤ 1048576) : Calls Try.prog 42 #[.slice A n c] w fun e w' =>
    e = .returned (.slice (some ⟨w.heap.size, 0, none⟩) n n) ∧ OwnI w' w.heap.size (.slice (some ⟨w.heap.size, 0, none⟩) n n) n zs ∧ Below w.heap.size w w' := by
  obtain ⟨i0, hi0, hz0, hz1, hz2⟩ := info_parts info_i64
  have hbytes : i0.bytes * n ≤ 281474976710656 := by rw [hz2]; omega
  have hmx : n ≤ maxLen := by unfold maxLen; omega
  have hlen := h.1
  have e0 : (madeCells #[Value.int .i64 0] (n * 1)).toList = (zs.map (Value.int .i64)).take 0 ++ List.replicate ((zs.map (Value.int .i64)).length - 0) (.int .i64 0) := by
    rw [toList_madeCells_one]; simp [hlen]
  have E0 := Lib.hid e0
  have HL := Lib.hid hlen
  clear e0 hlen
  go_enter Try.func42, Try.ntmps42
  go_wp2_with (at_make; refine wpList_make_full _ rfl _ _ _ rfl w.heap.size 2 i0 (.int .i64 0) 1 Try.underlying24 hi0 hz0 hz1 .i64 .i64 n n n rfl rfl rfl rfl hbytes hmx (Nat.le_refl _) ?_; intro w1 hown hg)
  have hb1 : Below w.heap.size w w1 := (Below.refl _ _).grown hg (Nat.le_refl _) (by simp)
  replace hown : w1.ownsRow w.heap.size 2 1 (.slice (some ⟨w.heap.size, 0, none⟩) n n) n ((zs.map (Value.int .i64)).take 0 ++ List.replicate ((zs.map (Value.int .i64)).length - 0) (.int .i64 0)) := by
    rw [← E0.out]; exact hown
  go_loopw [4] (fun i wr => ∃ k : Nat, k ≤ n ∧ i = .int .i64 k ∧ wr.ownsRow w.heap.size 2 1 (.slice (some ⟨w.heap.size, 0, none⟩) n n) n ((zs.map (Value.int .i64)).take k ++ List.replicate ((zs.map (Value.int .i64)).length - k) (.int .i64 0)) ∧ Below w.heap.size w wr) (fun i _ => n - (intOf i).toNat)
  case atStart => exact ⟨0, Nat.zero_le _, rfl, hown, hb1⟩
  case round =>
    clear hown hb1 hg
    obtain ⟨k, hk, rfl, hown, hb1⟩ := hrel
    by_cases hlt : k < n
    · obtain ⟨b, off, z, rfl, hblt, hz, hcell⟩ := (h.keep hb1).at_ hlt
      have Hz := Lib.hid hz
      obtain ⟨u3, hu3⟩ := OwnI.full hown hlt
      have hfr := World.ownsRow.frozenAt hown k
      clear hz
      go_wp2
      go_roundw
      case rel =>
        refine ⟨k + 1, by omega, by go_num, ?_, hb1.setCell (Nat.le_refl _) _⟩
        have hs := (World.ownsRow.stored hown k (.int .i64 z)).1
        rw [set_step _ _ _ _ (by simp; rw [HL.out]; exact hlt) (by rw [List.getElem?_map, Hz.out]; rfl)] at hs
        exact hs
      case measure => simp [intOf]; omega
    · obtain rfl : k = n := by omega
      go_wp2
      go_ret
      refine ⟨rfl, ?_, hb1⟩
      have e1 : (zs.map (Value.int .i64)).take k ++ List.replicate ((zs.map (Value.int .i64)).length - k) (.int .i64 0) = zs.map (Value.int .i64) := by
        rw [List.take_of_length_le (by simp; rw [HL.out]; omega)]; simp [HL.out]
      rw [e1] at hown
      exact hown

/-- The first k numbers of both lists are the same. -/
def EqTill (zs ys : List Int) (k : Nat) : Prop := ∀ j, j < k → zs[j]? = ys[j]?
theorem eqTill_succ {zs ys : List Int} {k : Nat} {z y : Int} (h : EqTill zs ys k) (hz : zs[k]? = some z) (hy : ys[k]? = some y) (e : z = y) : EqTill zs ys (k + 1) := fun j hj => by
  rcases Nat.lt_succ_iff_lt_or_eq.1 hj with h1 | rfl
  · exact h j h1
  · rw [hz, hy, e]
theorem eq_of_till {zs ys : List Int} {n : Nat} (hz : zs.length = n) (hy : ys.length = n) (h : EqTill zs ys n) : zs = ys := by
  apply List.ext_getElem?
  intro j
  by_cases hj : j < n
  · exact h j hj
  · rw [List.getElem?_eq_none (by omega), List.getElem?_eq_none (by omega)]
theorem ne_of_at {zs ys : List Int} {k : Nat} {z y : Int} (hz : zs[k]? = some z) (hy : ys[k]? = some y) (e : ¬ z = y) : ¬ zs = ys := fun h => by
  subst h; rw [hz] at hy; injection hy with hy; exact e hy

theorem eqInt64S_any (A B : Option Addr) (n m c d : Nat) (zs ys : List Int) (w : World) (h : Ints w A n zs) (g : Ints w B m ys) (hn : n ≤ 1048576) (hm : m ≤ 1048576) : Calls Try.prog 43 #[.slice A n c, .slice B m d] w fun e w' =>
    e = .returned (.bool (decide (zs = ys))) ∧ ∃ n, w' = w.drewN n := by
  by_cases hnm : n = m
  case neg =>
    have hne : ((n : Int) != (m : Int)) = true := by rw [bne_iff_ne]; omega
    have hv : decide (zs = ys) = false := by rw [decide_eq_false_iff_not]; intro e; exact hnm (by rw [← h.1, ← g.1, e])
    rw [hv]
    clear hv hnm
    go_enter Try.func43, Try.ntmps43
    go_wp2
    go_ret
    exact ⟨rfl, 0, rfl⟩
  subst hnm
  have hne : ((n : Int) != (n : Int)) = false := by simp
  go_enter Try.func43, Try.ntmps43
  go_wp2
  go_loopw [5] (fun i wr => ∃ k : Nat, k ≤ n ∧ i = .int .i64 k ∧ EqTill zs ys k ∧ ∃ q, wr = w.drewN q) (fun i _ => n - (intOf i).toNat)
  case atStart => exact ⟨0, Nat.zero_le _, rfl, fun _ hj => absurd hj (by omega), 0, rfl⟩
  case round =>
    obtain ⟨k, hk, rfl, he, nw, rfl⟩ := hrel
    by_cases hlt : k < n
    · obtain ⟨b, off, z, rfl, hblt, hz, hcz⟩ := h.at_ hlt
      obtain ⟨b2, off2, y, rfl, hblt2, hy, hcy⟩ := g.at_ hlt
      have Hz := Lib.hid hz
      have Hy := Lib.hid hy
      clear hz hy
      have k0 : (0 : Int) ≤ (k : Int) := by omega
      have k1 : (k : Int) < (n : Int) := by omega
      by_cases e : z = y
      · have ht : (z != y) = false := by simp [e]
        have He := Lib.hid e
        clear e
        go_wp2
        go_quiet (fail)
        go_wp2
        go_roundw
        case rel => exact ⟨k + 1, by omega, by go_num, eqTill_succ he Hz.out Hy.out He.out, (by first | exact ⟨_, rfl⟩ | exact drew2 _ _ _ | exact ⟨0, rfl⟩)⟩
        case measure => simp [intOf]; omega
      · have ht : (z != y) = true := by simpa using e
        go_wp2
        go_quiet (fail)
        go_wp2
        go_ret
        exact ⟨ret_bool (by symm; rw [decide_eq_false_iff_not]; exact ne_of_at Hz.out Hy.out e), (by first | exact ⟨_, rfl⟩ | exact drew2 _ _ _ | exact ⟨0, rfl⟩)⟩
    · obtain rfl : k = n := by omega
      go_wp2
      go_ret
      exact ⟨ret_bool (by symm; rw [decide_eq_true_iff]; exact eq_of_till h.1 g.1 he), (by first | exact ⟨_, rfl⟩ | exact drew2 _ _ _ | exact ⟨0, rfl⟩)⟩

/-- k, k + 1, .. : n numbers. -/
def ramp (k : Int) (n : Nat) : List Int := (List.range n).map fun j : Nat => k + (j : Int)
theorem ramp_len (k : Int) (n : Nat) : (ramp k n).length = n := by simp [ramp]
theorem ramp_at {k : Int} {n j : Nat} (h : j < n) : (ramp k n)[j]? = some (k + j) := by simp [ramp, h]

theorem mark_step (L R : List Value) (k : Nat) (u : Value) (hl : L.length = R.length) (hk : k < R.length) (hu : R[k]? = some u) : (R.take k ++ L.drop k).set k u = R.take (k + 1) ++ L.drop (k + 1) := by
  apply List.ext_getElem?
  intro j
  rw [List.getElem?_set]
  by_cases h : k = j
  · subst h
    rw [if_pos rfl, if_pos (by simp; omega), List.getElem?_append_left (by simp; omega), List.getElem?_take, if_pos (by omega), hu]
  · rw [if_neg h]
    by_cases hj : j < k
    · rw [List.getElem?_append_left (by simp; omega), List.getElem?_append_left (by simp; omega), List.getElem?_take, List.getElem?_take, if_pos hj, if_pos (by omega)]
    · rw [List.getElem?_append_right (by simp; omega), List.getElem?_append_right (by simp; omega)]
      simp only [List.length_take, List.getElem?_drop]
      congr 1
      omega

theorem markInt64S_any (A : Option Addr) (n c : Nat) (zs : List Int) (q : Int) (base : Nat) (w : World) (h : OwnI w base (.slice A n c) n zs) (hn : n ≤ 1048576) (q0 : 0 ≤ q) (q1 : q ≤ 1000000000000) : Calls Try.prog 44 #[.slice A n c, .int .i64 q] w fun e w' =>
    e = .returned (.int .i64 (q + n)) ∧ OwnI w' base (.slice A n c) n (ramp q n) ∧ w.grownBy w' (Value.slice A n c).ownBlock := by
  have hlen : zs.length = n := by simpa using h.1
  rcases Nat.eq_zero_or_pos n with hn0 | hpos
  · subst hn0
    have hz : zs = [] := List.eq_nil_of_length_eq_zero hlen
    subst hz
    go_enter Try.func44, Try.ntmps44
    go_wp2
    refine wp_loop_rounds 1 ?_
    rw [rounds_succ]
    go_wp2
    go_ret
    exact ⟨ret_int (by simp), h, World.grownBy.refl w _⟩
  obtain ⟨g, rfl⟩ : ∃ g, A = some ⟨g, 0, none⟩ := by
    rcases h.2 with ⟨_, h2⟩ | ⟨g, cap, cur, hv, _⟩
    · omega
    · exact ⟨g, by simp at hv; exact hv.1⟩
  have HL := Lib.hid hlen
  clear hlen
  go_enter Try.func44, Try.ntmps44
  go_wp2
  go_loopw [1, 5] (fun p i wr => ∃ k : Nat, k ≤ n ∧ i = .int .i64 k ∧ p = .int .i64 (q + k) ∧ wr.ownsRow base 2 1 (.slice (some ⟨g, 0, none⟩) n c) n (((ramp q n).map (Value.int .i64)).take k ++ (zs.map (Value.int .i64)).drop k) ∧ w.grownBy wr (some g)) (fun _ i _ => n - (intOf i).toNat)
  case atStart => exact ⟨0, Nat.zero_le _, rfl, by simp, by simpa using h, World.grownBy.refl w _⟩
  case round =>
    obtain ⟨k, hk, rfl, rfl, hown, hg⟩ := hrel
    by_cases hlt : k < n
    · obtain ⟨u3, hu3⟩ := OwnI.full hown hlt
      have hfr := World.ownsRow.frozenAt hown k
      go_wp2
      go_roundw
      case rel =>
        obtain ⟨hs, hg2⟩ := World.ownsRow.stored hown k (.int .i64 (q + k))
        rw [mark_step _ _ _ _ (by simp [ramp_len, HL.out]) (by simp [ramp_len]; exact hlt) (by rw [List.getElem?_map, ramp_at hlt]; rfl)] at hs
        exact ⟨k + 1, by omega, by go_num, by go_num, hs, World.grownBy.trans' hg hg2⟩
      case measure => simp [intOf]; omega
    · obtain rfl : k = n := by omega
      go_wp2
      go_ret
      have e1 : ((ramp q k).map (Value.int .i64)).take k ++ (zs.map (Value.int .i64)).drop k = (ramp q k).map (Value.int .i64) := by
        rw [List.take_of_length_le (by simp [ramp_len]), List.drop_eq_nil_of_le (by simp [HL.out]), List.append_nil]
      rw [e1] at hown
      exact ⟨rfl, hown, hg⟩

theorem heldInt64S_ramp (A : Option Addr) (n c : Nat) (q : Int) (w : World) (h : Ints w A n (ramp q n)) (hn : n ≤ 1048576) (q0 : 0 ≤ q) (q1 : q ≤ 1000000000000) : Calls Try.prog 45 #[.slice A n c, .int .i64 q] w fun e w' =>
    e = .returned (.int .i64 (q + n)) ∧ w = w' := by
  go_enter Try.func45, Try.ntmps45
  go_wp2
  go_loop [1, 5] (fun p i => ∃ k : Nat, k ≤ n ∧ i = .int .i64 k ∧ p = .int .i64 (q + k)) (fun _ i => n - (intOf i).toNat)
  case atStart => exact ⟨0, Nat.zero_le _, rfl, by simp⟩
  case round =>
    obtain ⟨k, hk, rfl, rfl⟩ := hrel
    by_cases hlt : k < n
    · obtain ⟨b, off, z, rfl, hblt, hz, hcz⟩ := h.at_ hlt
      rw [ramp_at hlt] at hz
      injection hz with hz
      subst hz
      have ht : (q + (k : Int) != q + (k : Int)) = false := by simp
      go_wp2
      go_round
      case rel => exact ⟨k + 1, by omega, by go_num, by go_num⟩
      case measure => simp [intOf]; omega
    · obtain rfl : k = n := by omega
      go_wp2
      go_ret
      exact ⟨rfl, rfl⟩
end Go.Proofs.Ytkkipkmjhakknaa
