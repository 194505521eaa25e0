/- StrandsAt. -/
import Derived.Test.YtgjjmgneekjapaaDoorCane2
namespace Go.Proofs.YtgjjmgneekjapaaDoor
open Go.RowKit
set_option linter.unusedVariables false
set_option linter.unusedSimpArgs false

def upd1 (L : List Int) (p : Int × Int) : List Int := L.set p.1.toNat (L.getD p.1.toNat 0 + 1)
def saL (f b s : Nat) : Nat → List Int
  | 0 => List.replicate f 0
  | j + 1 => if j + 1 = 2 ∨ j + 1 = 4 then saL f b s j else (pairsL f b s ((j : Int) + 1)).foldl upd1 (saL f b s j)
def atV (f b s n : Int) : List Int × Int := if okSeat f b s then (if inB n 0 6 then (saL f.toNat b.toNat s.toNat n.toNat, 0) else ([], 2)) else ([], 1)
theorem foldl_take_succ {L0 : List Int} {ps : List (Int × Int)} {k : Nat} {p : Int × Int} (h : ps[k]? = some p) : (ps.take (k + 1)).foldl upd1 L0 = upd1 ((ps.take k).foldl upd1 L0) p := by
  rw [List.take_add_one, h, List.foldl_append]; rfl
theorem stepP_fst {f b s k : Nat} {st : Int} (h1 : st ≠ 2) (h2 : st ≠ 4) (hk : k < stepN f s st) : ∃ h : Nat, (stepP f b st k).1 = h ∧ h < f := by
  unfold stepN at hk
  unfold stepP
  split at hk
  · rw [if_pos (by assumption)]; exact ⟨k, rfl, hk⟩
  · rename_i h3
    rw [if_neg h3]
    rw [if_neg (by omega)] at hk
    split
    · exact ⟨f - 1 - k, by show (f : Int) - 1 - k = _; omega, by omega⟩
    · exact ⟨k, rfl, by omega⟩
theorem OwnP.grown {w w' : World} {base : Nat} {v : Value} {n g0 : Nat} {ps : List (Int × Int)} (h : OwnP w base v n ps) (hg : w.grownBy w' (some g0)) (hlt : g0 < base) : OwnP w' base v n ps := by
  obtain ⟨hl, gs, h1, h2, h3, h4⟩ := h
  refine ⟨hl, gs, h1, World.ownsRow.kept h2 hg ?_, h3, fun j g p hgj hp => ?_⟩
  · right
    intro e
    have := (World.ownsRow.lt h2 g0 e).1
    omega
  · obtain ⟨a1, a2, a3⟩ := h4 j g p hgj hp
    exact ⟨a1, a2, (hg.block g (lt_of_heap a3) (by intro e; injection e with e; omega)).trans a3⟩
/-- All numbers lie in 0 .. m. -/
def Bnd (L : List Int) (m : Nat) : Prop := ∀ (j : Nat) (z : Int), L[j]? = some z → 0 ≤ z ∧ z ≤ m
theorem Bnd.mono {L : List Int} {m m' : Nat} (h : Bnd L m) (hm : m ≤ m') : Bnd L m' := fun j z hz => by have := h j z hz; omega
theorem Bnd.set {L : List Int} {m h : Nat} {z : Int} (hb : Bnd L m) (hz : L[h]? = some z) : Bnd (L.set h (z + 1)) (m + 1) := fun j y hy => by
  rw [List.getElem?_set] at hy
  have h1 := hb h z hz
  split at hy
  · split at hy
    · injection hy with hy; omega
    · simp at hy
  · have := hb j y hy; omega
theorem upd1_at {L : List Int} {p : Int × Int} {h : Nat} {z : Int} (hp : p.1 = h) (hz : L[h]? = some z) : upd1 L p = L.set h (z + 1) := by
  unfold upd1
  rw [hp, Int.toNat_natCast, List.getD_eq_getElem?_getD, hz]; rfl

theorem below_grown1 {w wx w2 : World} {g : Nat} (hB : Below w.heap.size w wx) (hg : wx.grownBy w2 (some g)) (h : w.heap.size ≤ g) : Below w.heap.size w w2 := hB.grown hg hB.size (fun k hk => by injection hk with hk; omega)
theorem stepN_le' {f s : Nat} {st : Int} (hf : f ≤ 40) (hs : s ≤ 40) : stepN f s st ≤ 40 := by
  unfold stepN
  split
  · exact hf
  · split
    · exact hs
    · omega

theorem ownI_zeros {w : World} {base n g c : Nat} {zs : List Value} (h : w.ownsRow base 2 1 (.slice (some ⟨g, 0, none⟩) n c) n zs) (e : zs = (List.replicate n (0 : Int)).map (Value.int .i64) := by simp [Value.cells, toList_madeCells_one]) : OwnI w base (.slice (some ⟨g, 0, none⟩) n c) n (List.replicate n 0) := by
  subst e; exact h
set_option maxHeartbeats 2000000 in
theorem implStrandsAt_any (f b s n : Int) (w : World) : Calls Tryd.prog 15 #[.agg #[.int .i64 f, .int .i64 b, .int .i64 s], .int .i64 n] w fun e w' =>
    ∃ C q p, e = .returned (.tuple #[.slice C q p, .int .i64 (atV f b s n).2]) ∧ OwnI w' w.heap.size (.slice C q p) q (atV f b s n).1 ∧ Below w.heap.size w w' := by
  obtain ⟨i0, hi0, hz0, hz1, hz2⟩ := info_parts info_i64
  cases ho : okSeat f b s
  · have hv : atV f b s n = ([], 1) := by simp [atV, ho]
    rw [hv]
    clear hv
    go_enter Tryd.func15, Tryd.ntmps15
    go_wp2_with fail
    refine (validSeat_eq _ _ _ false _ ho).mono ?_
    rintro e w1 ⟨rfl, hb⟩
    obtain ⟨c0, c1, c2, hB⟩ := box_cells hb
    go_wp2
    go_ret2
    exact ⟨none, 0, 0, rfl, World.ownsRow_nil _ _ _ _, by (repeat' (first | (with_reducible exact Below.refl _ _) | (with_reducible assumption) | (with_reducible refine Below.drew ?_) | (with_reducible refine below_drewN ?_ _) | (with_reducible refine Below.setCell ?_ ?_ _) | (with_reducible refine Below.alloc ?_ ?_ _) | go_size))⟩
  cases hs : inB n 0 6
  · have hv : atV f b s n = ([], 2) := by simp [atV, ho, hs]
    rw [hv]
    clear hv
    go_enter Tryd.func15, Tryd.ntmps15
    go_wp2_with fail
    refine (validSeat_eq _ _ _ true _ ho).mono ?_
    rintro e w1 ⟨rfl, hb⟩
    obtain ⟨c0, c1, c2, hB⟩ := box_cells hb
    go_wp2_with (go_at_call 31; refine (within_any _ _ _ _).mono ?_; rintro e w' ⟨rfl, rfl⟩)
    go_ret2
    exact ⟨none, 0, 0, rfl, World.ownsRow_nil _ _ _ _, by (repeat' (first | (with_reducible exact Below.refl _ _) | (with_reducible assumption) | (with_reducible refine Below.drew ?_) | (with_reducible refine below_drewN ?_ _) | (with_reducible refine Below.setCell ?_ ?_ _) | (with_reducible refine Below.alloc ?_ ?_ _) | go_size))⟩
  have hv : atV f b s n = (saL f.toNat b.toNat s.toNat n.toNat, 0) := by simp [atV, ho, hs]
  rw [hv]
  clear hv
  obtain ⟨⟨f0, f1⟩, ⟨b0, b1⟩, ⟨s0, s1⟩, hmod⟩ := (okSeat_iff _ _ _).1 ho
  obtain ⟨n0, n1⟩ := (inB_iff _ _ _).1 hs
  clear hmod
  obtain ⟨f, rfl⟩ := Int.eq_ofNat_of_zero_le (show 0 ≤ f by omega)
  obtain ⟨b, rfl⟩ := Int.eq_ofNat_of_zero_le (show 0 ≤ b by omega)
  obtain ⟨s, rfl⟩ := Int.eq_ofNat_of_zero_le (show 0 ≤ s by omega)
  obtain ⟨n, rfl⟩ := Int.eq_ofNat_of_zero_le (show 0 ≤ n by omega)
  simp only [Int.toNat_natCast]
  have hbytes : i0.bytes * f ≤ 281474976710656 := by rw [hz2]; omega
  have hmx : f ≤ maxLen := by unfold maxLen; omega
  go_enter Tryd.func15, Tryd.ntmps15
  go_wp2_with fail
  refine (validSeat_eq _ _ _ true _ ho).mono ?_
  rintro e w1 ⟨rfl, hb⟩
  have hsz1 : w.heap.size + 1 ≤ w1.heap.size := by have := hb.size; rw [World.size_alloc] at this; exact this
  obtain ⟨c0, c1, c2, hB⟩ := box_cells hb
  go_wp2_with (first | (go_at_call 31; refine (within_any _ _ _ _).mono ?_; rintro e w' ⟨rfl, rfl⟩) | (at_make; refine wpList_make_full _ rfl _ _ _ rfl w1.heap.size 2 i0 (.int .i64 0) 1 Tryd.underlying37 hi0 hz0 hz1 .i64 .i64 f f f rfl rfl rfl rfl hbytes hmx (Nat.le_refl _) ?_; intro w2 hown hg))
  have hB2 : Below w.heap.size w w2 := hB.grown hg hB.size (by simp)
  have x0 := hg.cell c0 (by simp)
  have x1 := hg.cell c1 (by simp)
  have x2 := hg.cell c2 (by simp)
  have hlt2 : w1.heap.size < w2.heap.size := (World.ownsRow.lt hown _ rfl).2
  clear hb hB c0 c1 c2 hg
  generalize w1.heap.size = OB at *
  go_loopw [7] (fun i wr => ∃ j : Nat, j ≤ n ∧ i = .int .i64 (j + 1) ∧ OwnI wr OB (.slice (some ⟨OB, 0, none⟩) f f) f (saL f b s j) ∧ Bnd (saL f b s j) (40 * j) ∧ (wr.cell? ⟨w.heap.size, 0, none⟩ = some (.int .i64 f) ∧ wr.cell? ⟨w.heap.size, 1, none⟩ = some (.int .i64 b) ∧ wr.cell? ⟨w.heap.size, 2, none⟩ = some (.int .i64 s)) ∧ OB < wr.heap.size ∧ Below w.heap.size w wr) (fun i _ => n + 2 - (intOf i).toNat)
  case atStart =>
    refine ⟨0, Nat.zero_le _, rfl, ?_, ?_, ⟨x0, x1, x2⟩, hlt2, hB2⟩
    · exact ownI_zeros hown
    · intro j z hz
      simp only [saL] at hz
      have := List.eq_of_mem_replicate (List.mem_of_getElem? hz)
      omega
  case round =>
    clear hown hB2 x0 x1 x2 hlt2
    obtain ⟨j, hj, rfl, hown, hbd, ⟨c0, c1, c2⟩, hOB0, hB⟩ := hrel
    have hOBw : w.heap.size ≤ OB := by omega
    have hOBn : some w.heap.size ≠ some OB := by intro e; injection e with e; omega
    by_cases hjn : j < n
    · by_cases hn2 : ((j : Int) + 1) = 2
      · have t2 : ((j : Int) + 1 == 2) = true := by rw [beq_iff_eq]; exact hn2
        have Hn := Lib.hid hn2
        clear hn2
        go_wp2
        go_roundw
        case rel =>
          have e5 : saL f b s (j + 1) = saL f b s j := by have := Hn.out; rw [saL, if_pos (by omega)]
          exact ⟨j + 1, by omega, by go_num, by rw [e5]; exact hown, by rw [e5]; exact hbd.mono (by omega), ⟨c0, c1, c2⟩, hOB0, hB⟩
        case measure => simp [intOf]; omega
      by_cases hn4 : ((j : Int) + 1) = 4
      · have t2 : ((j : Int) + 1 == 2) = false := by rw [beq_eq_false_iff_ne]; exact hn2
        have t4 : ((j : Int) + 1 == 4) = true := by rw [beq_iff_eq]; exact hn4
        have Hn := Lib.hid hn4
        clear hn2 hn4
        go_wp2
        go_roundw
        case rel =>
          have e5 : saL f b s (j + 1) = saL f b s j := by have := Hn.out; rw [saL, if_pos (by omega)]
          exact ⟨j + 1, by omega, by go_num, by rw [e5]; exact hown, by rw [e5]; exact hbd.mono (by omega), ⟨c0, c1, c2⟩, hOB0, hB⟩
        case measure => simp [intOf]; omega
      have t2 : ((j : Int) + 1 == 2) = false := by rw [beq_eq_false_iff_ne]; exact hn2
      have t4 : ((j : Int) + 1 == 4) = false := by rw [beq_eq_false_iff_ne]; exact hn4
      have hst : (1 : Int) ≤ (j : Int) + 1 := by omega
      have hst6 : (j : Int) + 1 ≤ 6 := by omega
      go_wp2_with (go_at_call 32; refine (pairsOf_any _ _ _ _ _ ho hst hst6).mono ?_; rintro e w2 ⟨A, m, c, rfl, hP, hb⟩)
      have hlen := OwnP.len hP
      rw [pairsL_len] at hlen
      have hn40 := stepN_le' (f := f) (s := s) (st := (j : Int) + 1) (by omega) (by omega)
      rw [hlen] at hn40
      have Hlen := Lib.hid hlen
      have Hn2 := Lib.hid hn2
      have Hn4 := Lib.hid hn4
      replace hown := OwnI.keep hown hb
      have hOB : OB < wr.heap.size := hOB0
      have hwsz := hb.size
      have d0 := keepc hb c0
      have d1 := keepc hb c1
      have d2 := keepc hb c2
      have hB1 := belowT hb hB
      clear hlen hn2 hn4 hb hB c0 c1 c2 hOB0
      generalize wr.heap.size = WS at *
      go_loopw [34] (fun i wx => ∃ k : Nat, k ≤ m ∧ i = .int .i64 k ∧ OwnI wx OB (.slice (some ⟨OB, 0, none⟩) f f) f (((pairsL f b s ((j : Int) + 1)).take k).foldl upd1 (saL f b s j)) ∧ Bnd (((pairsL f b s ((j : Int) + 1)).take k).foldl upd1 (saL f b s j)) (40 * j + k) ∧ OwnP wx WS (.slice A m c) m (pairsL f b s ((j : Int) + 1)) ∧
        (wx.cell? ⟨w.heap.size, 0, none⟩ = some (.int .i64 f) ∧ wx.cell? ⟨w.heap.size, 1, none⟩ = some (.int .i64 b) ∧ wx.cell? ⟨w.heap.size, 2, none⟩ = some (.int .i64 s)) ∧ Below w.heap.size w wx) (fun i _ => m - (intOf i).toNat)
      case atStart => exact ⟨0, Nat.zero_le _, rfl, hown, hbd.mono (by omega), hP, ⟨d0, d1, d2⟩, hB1⟩
      case round =>
        obtain ⟨k, hk, rfl, hown, hbd, hP, ⟨c0, c1, c2⟩, hB⟩ := hrel
        by_cases hlt : k < m
        · obtain ⟨bb, g, p, rfl, hp, e1, e2, e3, b5, b6, b7⟩ := OwnP.at_ hP hlt
          obtain ⟨h, hh, hhf⟩ := stepP_fst (f := f) (b := b) (s := s) (k := k) Hn2.out Hn4.out (by rw [Hlen.out]; exact hlt)
          have hpe := pairsL_at hp
          rw [← hpe] at hh
          rw [hh] at e2
          have hlen2 := OwnI.len hown
          have hz : (((pairsL f b s ((j : Int) + 1)).take k).foldl upd1 (saL f b s j))[h]? = some ((((pairsL f b s ((j : Int) + 1)).take k).foldl upd1 (saL f b s j))[h]'(by omega)) := List.getElem?_eq_getElem _
          generalize (((pairsL f b s ((j : Int) + 1)).take k).foldl upd1 (saL f b s j))[h]'(by omega) = z at hz
          have hz01 := hbd h z hz
          have hcz : wr.cell? ⟨OB, h, none⟩ = some (.int .i64 z) := by
            rw [World.ownsRow.cellAt hown h (by omega), List.getElem?_map, hz]; rfl
          have hfr := World.ownsRow.frozenAt hown h
          obtain ⟨hs', hg'⟩ := World.ownsRow.stored hown h (.int .i64 (z + 1))
          have e4 := (foldl_take_succ (L0 := saL f b s j) hp).trans (upd1_at hh hz)
          have E4 := Lib.hid e4
          have Hbd2 := Lib.hid (hbd.set hz)
          have Hs := Lib.hid hs'
          have Hg := Lib.hid hg'
          have h0' : (0 : Int) ≤ (h : Int) := by omega
          have h1' : (h : Int) < (f : Int) := by omega
          clear hz hpe hh hp hlen2 hs' hg' e4 hbd
          go_wp2
          go_roundw
          case rel =>
            refine ⟨k + 1, by omega, by go_num, ?_, ?_, OwnP.grown hP Hg.out hOB, ⟨?_, ?_, ?_⟩, below_grown1 hB Hg.out hOBw⟩
            · rw [E4.out]; have := Hs.out; rw [← List.map_set] at this; exact this
            · rw [E4.out]; exact Hbd2.out
            · exact Hg.out.cell c0 hOBn
            · exact Hg.out.cell c1 hOBn
            · exact Hg.out.cell c2 hOBn
          case measure => simp [intOf]; omega
        · obtain rfl : k = m := by omega
          go_wp2
          go_roundw
          case rel =>
            have e5 : ((pairsL f b s ((j : Int) + 1)).take k).foldl upd1 (saL f b s j) = saL f b s (j + 1) := by
              have h2 := Hn2.out
              have h4 := Hn4.out
              rw [List.take_of_length_le (by rw [pairsL_len, Hlen.out]; exact Nat.le_refl _), saL, if_neg (by omega)]
            rw [e5] at hown hbd
            exact ⟨j + 1, by omega, by go_num, hown, hbd.mono (by omega), ⟨c0, c1, c2⟩, World.ownsRow.lt hown _ rfl |>.2, hB⟩
          case measure => simp [intOf]; omega
    · obtain rfl : j = n := by omega
      go_wp2
      go_ret2
      exact ⟨_, _, _, rfl, World.ownsRow.mono hown (by omega), hB⟩
end Go.Proofs.YtgjjmgneekjapaaDoor
