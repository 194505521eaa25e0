/- BrokenStrands of the program. -/
import Derived.Test.YtgjjmgneekjapaaDoorAt2
namespace Go.Proofs.YtgjjmgneekjapaaDoor
open Go.RowKit
set_option linter.unusedVariables false
set_option linter.unusedSimpArgs false

/-- Among the first k pairs of the step one begins at the hole. -/
def hitB (f b : Nat) (st h : Int) : Nat → Bool
  | 0 => false
  | k + 1 => hitB f b st h k || decide ((stepP f b st k).1 = h)
theorem hitB_iff {f b : Nat} {st h : Int} : ∀ {k : Nat}, hitB f b st h k = true ↔ ∃ j, j < k ∧ (stepP f b st j).1 = h
  | 0 => by simp [hitB]
  | k + 1 => by
    rw [hitB, Bool.or_eq_true, hitB_iff, decide_eq_true_eq]
    constructor
    · rintro (⟨j, hj, e⟩ | e)
      · exact ⟨j, by omega, e⟩
      · exact ⟨k, by omega, e⟩
    · rintro ⟨j, hj, e⟩
      rcases Nat.lt_succ_iff_lt_or_eq.1 hj with h1 | rfl
      · exact .inl ⟨j, h1, e⟩
      · exact .inr e
theorem stepP_inj {f b j k : Nat} {st : Int} (h : (stepP f b st j).1 = (stepP f b st k).1) : j = k := by
  unfold stepP at h
  split at h
  · simp only at h; omega
  · split at h
    · simp only at h; omega
    · simp only at h; omega
theorem hit_no {f b k : Nat} {st h : Int} (hh : hitB f b st h k = true) : (stepP f b st k).1 ≠ h := by
  obtain ⟨j, hj, e⟩ := hitB_iff.1 hh
  intro e2
  have := stepP_inj (e.trans e2.symm)
  omega
def hitL (f b : Nat) (st h : Int) (k : Nat) : List Int := if hitB f b st h k then [st] else []
def stA (k : Nat) : Int := if k = 0 then 1 else if k = 1 then 3 else if k = 2 then 5 else 6
def bsL (f b s : Nat) (h : Int) : Nat → List Int
  | 0 => []
  | i + 1 => bsL f b s h i ++ hitL f b (stA i) h (stepN f s (stA i))
def brkV (f b s h : Int) : List Int × Int := if okSeat f b s then (if inB h 0 (f - 1) then (bsL f.toNat b.toNat s.toNat h 4, 0) else ([], 2)) else ([], 1)
theorem hitL_len (f b : Nat) (st h : Int) (k : Nat) : (hitL f b st h k).length ≤ 1 := by unfold hitL; split <;> simp
theorem bsL_len (f b s : Nat) (h : Int) : ∀ i, (bsL f b s h i).length ≤ i
  | 0 => by simp [bsL]
  | i + 1 => by have h1 := bsL_len f b s h i; have h2 := hitL_len f b (stA i) h (stepN f s (stA i)); simp [bsL]; omega
theorem brkV_len (f b s h : Int) : (brkV f b s h).1.length ≤ 1048576 := by
  unfold brkV
  split
  · split
    · have := bsL_len f.toNat b.toNat s.toNat h 4; simp; omega
    · simp
  · simp
theorem ownI_lies {w1 : World} {base q g cap : Nat} {L : List Int} {z : Int} (h : w1.ownsRow base 2 1 (.slice (some ⟨g, 0, none⟩) (q + 1) cap) (q + 1) (L.map (Value.int .i64) ++ [.int .i64 z])) : OwnI w1 base (.slice (some ⟨g, 0, none⟩) (q + 1) cap) (q + 1) (L ++ [z]) := by
  have e : L.map (Value.int .i64) ++ [.int .i64 z] = (L ++ [z]).map (Value.int .i64) := by simp
  rw [e] at h; exact h
theorem OwnP.grown2 {w w' : World} {o : Obj} {base : Nat} {v : Value} {n : Nat} {r : Option Nat} {ps : List (Int × Int)} (h : OwnP w base v n ps) (hg : (w.alloc o).grownBy w' r) (hlt : ∀ g, r = some g → g < base) : OwnP w' base v n ps := by
  obtain ⟨hl, gs, h1, h2, h3, h4⟩ := h
  refine ⟨hl, gs, h1, World.ownsRow.kept (h2.alloc o) hg ?_, h3, fun j g p hgj hp => ?_⟩
  · rcases hv : v.ownBlock with _ | g
    · exact .inl rfl
    · right
      intro e
      have h5 := (World.ownsRow.lt h2 g hv).1
      have h6 := hlt g e.symm
      omega
  · obtain ⟨a1, a2, a3⟩ := h4 j g p hgj hp
    refine ⟨a1, a2, ?_⟩
    rw [hg.block g (by have := lt_of_heap a3; simp; omega) (by intro e; have := hlt g e.symm; omega), Below.heap_alloc _ _ _ (lt_of_heap a3)]
    exact a3
/-- A cell of another block, behind an append of one number. -/
theorem cell_app {w w' : World} {o : Obj} {r : Option Nat} {p : Addr} {v : Value} (hg : (w.alloc o).grownBy w' r) (h : w.cell? p = some v) (hne : r ≠ some p.block) : w'.cell? p = some v := by
  refine hg.cell ?_ (fun e => hne e.symm)
  rw [World.cell?_alloc_lt _ _ _ (World.block_lt_of_cell? _ _ h)]
  exact h

set_option maxHeartbeats 2000000 in
theorem implBrokenStrands_any (f b s h : Int) (w : World) : Calls Tryd.prog 21 #[.agg #[.int .i64 f, .int .i64 b, .int .i64 s], .int .i64 h] w fun e w' =>
    ∃ C q p, e = .returned (.tuple #[.slice C q p, .int .i64 (brkV f b s h).2]) ∧ OwnI w' w.heap.size (.slice C q p) q (brkV f b s h).1 ∧ Below w.heap.size w w' := by
  obtain ⟨i0, hi0, hz0, hz1, hz2⟩ := info_parts info_i64
  cases ho : okSeat f b s
  · have hv : brkV f b s h = ([], 1) := by simp [brkV, ho]
    rw [hv]
    clear hv
    go_enter Tryd.func21, Tryd.ntmps21
    go_wp2_with fail
    refine (validSeat_eq _ _ _ false _ ho).mono ?_
    rintro e w1 ⟨rfl, hb⟩
    obtain ⟨c0, c1, c2, hB⟩ := box_cells hb
    go_wp2
    go_ret2
    exact ⟨none, 0, 0, rfl, World.ownsRow_nil _ _ _ _, by (repeat' (first | (with_reducible exact Below.refl _ _) | (with_reducible assumption) | (with_reducible refine Below.drew ?_) | (with_reducible refine below_drewN ?_ _) | (with_reducible refine Below.setCell ?_ ?_ _) | (with_reducible refine Below.alloc ?_ ?_ _) | go_size))⟩
  obtain ⟨⟨f0, f1⟩, ⟨b0, b1⟩, ⟨s0, s1⟩, hmod⟩ := (okSeat_iff _ _ _).1 ho
  cases hs : inB h 0 (f - 1)
  · have hv : brkV f b s h = ([], 2) := by simp [brkV, ho, hs]
    rw [hv]
    clear hv
    go_enter Tryd.func21, Tryd.ntmps21
    go_wp2_with fail
    refine (validSeat_eq _ _ _ true _ ho).mono ?_
    rintro e w1 ⟨rfl, hb⟩
    obtain ⟨c0, c1, c2, hB⟩ := box_cells hb
    go_wp2_with (go_at_call 31; refine (within_any _ _ _ _).mono ?_; rintro e w' ⟨rfl, rfl⟩)
    go_ret2
    exact ⟨none, 0, 0, rfl, World.ownsRow_nil _ _ _ _, by (repeat' (first | (with_reducible exact Below.refl _ _) | (with_reducible assumption) | (with_reducible refine Below.drew ?_) | (with_reducible refine below_drewN ?_ _) | (with_reducible refine Below.setCell ?_ ?_ _) | (with_reducible refine Below.alloc ?_ ?_ _) | go_size))⟩
  have hv : brkV f b s h = (bsL f.toNat b.toNat s.toNat h 4, 0) := by simp [brkV, ho, hs]
  rw [hv]
  clear hv
  obtain ⟨n0, n1⟩ := (inB_iff _ _ _).1 hs
  clear hmod
  obtain ⟨f, rfl⟩ := Int.eq_ofNat_of_zero_le (show 0 ≤ f by omega)
  obtain ⟨b, rfl⟩ := Int.eq_ofNat_of_zero_le (show 0 ≤ b by omega)
  obtain ⟨s, rfl⟩ := Int.eq_ofNat_of_zero_le (show 0 ≤ s by omega)
  simp only [Int.toNat_natCast]
  go_enter Tryd.func21, Tryd.ntmps21
  go_wp2_with fail
  refine (validSeat_eq _ _ _ true _ ho).mono ?_
  rintro e w1 ⟨rfl, hb⟩
  have hsz1 : w.heap.size + 1 ≤ w1.heap.size := by have := hb.size; rw [World.size_alloc] at this; exact this
  obtain ⟨c0, c1, c2, hB⟩ := box_cells hb
  go_wp2_with (go_at_call 31; refine (within_any _ _ _ _).mono ?_; rintro e w' ⟨rfl, rfl⟩)
  have hBB : Below w1.heap.size w1 ((w1.alloc (.cells #[] 2)).alloc (.cells #[.int .i64 1, .int .i64 3, .int .i64 5, .int .i64 6] 2)) := ((Below.refl _ _).alloc (Nat.le_refl _) _).alloc (by simp) _
  have d0 : ((w1.alloc (.cells #[] 2)).alloc (.cells #[.int .i64 1, .int .i64 3, .int .i64 5, .int .i64 6] 2)).cell? ⟨w.heap.size, 0, none⟩ = some (.int .i64 f) := keepc hBB c0
  have d1 : ((w1.alloc (.cells #[] 2)).alloc (.cells #[.int .i64 1, .int .i64 3, .int .i64 5, .int .i64 6] 2)).cell? ⟨w.heap.size, 1, none⟩ = some (.int .i64 b) := keepc hBB c1
  have d2 : ((w1.alloc (.cells #[] 2)).alloc (.cells #[.int .i64 1, .int .i64 3, .int .i64 5, .int .i64 6] 2)).cell? ⟨w.heap.size, 2, none⟩ = some (.int .i64 s) := keepc hBB c2
  have hown : OwnI ((w1.alloc (.cells #[] 2)).alloc (.cells #[.int .i64 1, .int .i64 3, .int .i64 5, .int .i64 6] 2)) w1.heap.size (.slice (some ⟨w1.heap.size, 0, none⟩) 0 0) 0 [] := World.ownsRow.alloc (World.ownsRow_made _ _ _ (Nat.le_refl _) (by unfold maxLen; omega) (by simp)) _
  have hLB : ((w1.alloc (.cells #[] 2)).alloc (.cells #[.int .i64 1, .int .i64 3, .int .i64 5, .int .i64 6] 2)).heap[w1.heap.size + 1]? = some (.cells #[.int .i64 1, .int .i64 3, .int .i64 5, .int .i64 6] 2 (0, 0)) := by
    have h5 := heap_alloc_new (w1.alloc (.cells #[] 2)) (.cells #[.int .i64 1, .int .i64 3, .int .i64 5, .int .i64 6] 2)
    rw [World.size_alloc] at h5
    exact h5
  have hB2 : Below w.heap.size w ((w1.alloc (.cells #[] 2)).alloc (.cells #[.int .i64 1, .int .i64 3, .int .i64 5, .int .i64 6] 2)) := (hB.alloc hB.size _).alloc (by have := hB.size; simp; omega) _
  clear hb hB c0 c1 c2 hBB
  generalize (w1.alloc (.cells #[] 2)).alloc (.cells #[.int .i64 1, .int .i64 3, .int .i64 5, .int .i64 6] 2) = w3 at *
  generalize w1.heap.size = OB at *
  go_loopw [6, 23] (fun v i wr => ∃ ix : Nat, ix ≤ 4 ∧ i = .int .i64 ix ∧ (∃ C q p, v = .slice C q p ∧ OwnI wr OB (.slice C q p) q (bsL f b s h ix) ∧ blk C ≠ some (OB + 1)) ∧
    (wr.cell? ⟨w.heap.size, 0, none⟩ = some (.int .i64 f) ∧ wr.cell? ⟨w.heap.size, 1, none⟩ = some (.int .i64 b) ∧ wr.cell? ⟨w.heap.size, 2, none⟩ = some (.int .i64 s)) ∧ wr.heap[OB + 1]? = some (.cells #[.int .i64 1, .int .i64 3, .int .i64 5, .int .i64 6] 2 (0, 0)) ∧ Below w.heap.size w wr) (fun _ i _ => 4 - (intOf i).toNat)
  case atStart => exact ⟨0, Nat.zero_le _, rfl, ⟨_, _, _, rfl, hown, by simp [blk]⟩, ⟨d0, d1, d2⟩, hLB, hB2⟩
  case round =>
    clear hown hB2 d0 d1 d2 hLB
    obtain ⟨ix, hix, rfl, ⟨C, q, p, rfl, hown, hCn⟩, ⟨c0, c1, c2⟩, hLB, hB⟩ := hrel
    by_cases hlt : ix < 4
    · obtain ⟨st, hste⟩ : ∃ st, st = stA ix := ⟨_, rfl⟩
      have hcs : wr.cell? ⟨OB + 1, ix, none⟩ = some (.int .i64 st) := by
        rw [cell_of_row wr _ ix _ _ _ hLB, hste]
        have : ix = 0 ∨ ix = 1 ∨ ix = 2 ∨ ix = 3 := by omega
        rcases this with rfl | rfl | rfl | rfl <;> rfl
      have hr : 1 ≤ st ∧ st ≤ 6 ∧ st ≠ 2 ∧ st ≠ 4 := by
        rw [hste]; unfold stA
        repeat' split
        all_goals omega
      obtain ⟨hst, hst6, hst2, hst4⟩ := hr
      have Hste := Lib.hid hste
      have hown0 := hown
      have hi4 : ix ≤ 4 := hix
      have hix4 := hlt
      clear hste hlt
      have Hst2 := Lib.hid hst2
      have Hst4 := Lib.hid hst4
      go_wp2_with (go_at_call 32; refine (pairsOf_any _ _ _ _ _ ho hst hst6).mono ?_; rintro e w2 ⟨A, m, c, rfl, hP, hb⟩)
      have hlen := OwnP.len hP
      rw [pairsL_len] at hlen
      have Hlen := Lib.hid hlen
      have hm40 : m ≤ 40 := by rw [← hlen]; exact stepN_le (by omega) (by omega)
      replace hown := OwnI.keep hown hb
      have hql := OwnI.len hown
      have hbl := bsL_len f b s h ix
      rw [hql] at hbl
      have hwlt : ∀ g, blk C = some g → g < wr.heap.size := fun g e => (OwnI.lt hown0 g e).2
      have d0 := keepc hb c0
      have d1 := keepc hb c1
      have d2 := keepc hb c2
      have hLB' : w2.heap[OB + 1]? = some (.cells #[.int .i64 1, .int .i64 3, .int .i64 5, .int .i64 6] 2 (0, 0)) := (hb.block _ (lt_of_heap hLB)).trans hLB
      have hB1 := belowT hb hB
      have hOBs : OB + 1 < wr.heap.size := lt_of_heap hLB
      have hws2 := hb.size
      clear hlen hql hb hB c0 c1 c2 hst2 hst4 hLB hown0
      generalize wr.heap.size = WS at *
      go_loopw [6, 31] (fun v i wr => ∃ k : Nat, k ≤ m ∧ i = .int .i64 k ∧ (∃ C q p, v = .slice C q p ∧ OwnI wr OB (.slice C q p) q (bsL f b s h ix ++ hitL f b st h k) ∧ blk C ≠ some (OB + 1) ∧ (hitB f b st h k = false → ∀ g, blk C = some g → g < WS)) ∧ OwnP wr WS (.slice A m c) m (pairsL f b s st) ∧
        (wr.cell? ⟨w.heap.size, 0, none⟩ = some (.int .i64 f) ∧ wr.cell? ⟨w.heap.size, 1, none⟩ = some (.int .i64 b) ∧ wr.cell? ⟨w.heap.size, 2, none⟩ = some (.int .i64 s)) ∧ wr.heap[OB + 1]? = some (.cells #[.int .i64 1, .int .i64 3, .int .i64 5, .int .i64 6] 2 (0, 0)) ∧ WS ≤ wr.heap.size ∧ Below w.heap.size w wr) (fun _ i _ => m - (intOf i).toNat)
      case atStart => exact ⟨0, Nat.zero_le _, rfl, ⟨C, q, p, rfl, by simpa [hitL, hitB] using hown, hCn, fun _ => hwlt⟩, hP, ⟨d0, d1, d2⟩, hLB', hws2, hB1⟩
      case round =>
        obtain ⟨k, hk, rfl, ⟨C, q, p, rfl, hown, hCn, hCw⟩, hP, ⟨c0, c1, c2⟩, hLB, hws, hB⟩ := hrel
        by_cases hlt : k < m
        · obtain ⟨bb, g, pr, rfl, hp, e1, e2, e3, b5, b6, b7⟩ := OwnP.at_ hP hlt
          have hpe := pairsL_at hp
          by_cases hh : pr.1 = h
          · have ht : (pr.1 == h) = true := by rw [beq_iff_eq]; exact hh
            have hno : hitB f b st h k = false := by
              cases hq : hitB f b st h k
              · rfl
              · exact absurd (by rw [← hpe]; exact hh) (hit_no hq)
            have hCw2 := hCw hno
            have e5 : hitL f b st h (k + 1) = [st] := by unfold hitL; rw [if_pos (by rw [hitB, ← hpe]; simp [hh])]
            have e6 : hitL f b st h k = [] := by simp [hitL, hno]
            rw [e6, List.append_nil] at hown
            have hql := OwnI.len hown
            have hqi : q ≤ 4 := by rw [← hql]; exact Nat.le_trans (bsL_len _ _ _ _ _) hi4
            have E5 := Lib.hid e5
            have hBs := hB.size
            have hyes : hitB f b st h (k + 1) = true := by rw [hitB, ← hpe]; simp [hh]
            have Hyes := Lib.hid hyes
            have HCn := Lib.hid hCn
            have HCw := Lib.hid hCw2
            clear hh hno e5 e6 hql hpe hp hyes hCn hCw hCw2
            go_wp2_with (at_builtin; refine wpList_append_lies _ rfl _ _ 37 rfl (OB) 2 i0 (.int .i64 0) 1 8 Tryd.underlying37 hi0 hz0 hz1 hz2 rfl (by decide) _ _ _ rfl (hown.alloc _) ⟨_, 0, none⟩ 1 1 [.int .i64 st] rfl rfl (cell_one_new _ _ _) (ints_oneCell .i64 [st]) (by decide) (by unfold maxLen; omega) (by omega) (by simp; omega) (wr.heap.size + 1) (by simp) ?_; intro gn cap w1 hown1 hgrow1 hat1 hlt1)
            go_roundw
            case rel =>
              have hCn := HCn.out
              have hrow : ∀ g, (Value.slice C q p).ownBlock = some g → OB ≤ g ∧ g < WS ∧ g ≠ OB + 1 := fun g e => ⟨(World.ownsRow.lt hown g e).1, HCw.out g (by rw [← blk_own]; exact e), fun e2 => hCn (by rw [← blk_own C q p, e, e2])⟩
              refine ⟨k + 1, by omega, by go_num, ⟨_, _, _, rfl, by rw [E5.out]; exact ownI_lies hown1, ?_, fun e => absurd e (by rw [Hyes.out]; simp)⟩, OwnP.grown2 hP hgrow1 (fun g e => (hrow g e).2.1), ⟨?_, ?_, ?_⟩, ?_, ?_, ?_⟩
              · intro e
                simp only [blk, Option.map_some, Option.some.injEq] at e
                rcases hat1 with h5 | h5
                · exact (hrow _ h5).2.2 e
                · omega
              · exact cell_app hgrow1 c0 (fun e => by have := (hrow _ e).1; simp only at this; omega)
              · exact cell_app hgrow1 c1 (fun e => by have := (hrow _ e).1; simp only at this; omega)
              · exact cell_app hgrow1 c2 (fun e => by have := (hrow _ e).1; simp only at this; omega)
              · rw [hgrow1.block (OB + 1) (by simp; omega) (fun e => (hrow _ e.symm).2.2 rfl), Below.heap_alloc _ _ _ (by omega)]
                exact hLB
              · have := hgrow1.size; simp at this; omega
              · exact (hB.alloc hBs _).grown hgrow1 (by simp; omega) (fun g e => by have := (hrow g e).1; omega)
            case measure => simp [intOf]; omega
          · have ht : (pr.1 == h) = false := by rw [beq_eq_false_iff_ne]; exact hh
            have e7 : hitB f b st h (k + 1) = hitB f b st h k := by rw [hitB, ← hpe]; simp [hh]
            have e5 : hitL f b st h (k + 1) = hitL f b st h k := by unfold hitL; rw [e7]
            have E5 := Lib.hid e5
            have E7 := Lib.hid e7
            have HCn := Lib.hid hCn
            have HCw := Lib.hid hCw
            clear hh e5 e7 hpe hp hCn hCw
            go_wp2
            go_roundw
            case rel => exact ⟨k + 1, by omega, by go_num, ⟨_, _, _, rfl, by rw [E5.out]; exact hown, HCn.out, by rw [E7.out]; exact HCw.out⟩, hP, ⟨c0, c1, c2⟩, hLB, hws, hB⟩
            case measure => simp [intOf]; omega
        · obtain rfl : k = m := by omega
          have HCn := Lib.hid hCn
          clear hCn hCw
          go_wp2
          go_roundw
          case rel => exact ⟨ix + 1, by omega, by go_num, ⟨_, _, _, rfl, by rw [bsL, ← Hste.out, Hlen.out]; exact hown, HCn.out⟩, ⟨c0, c1, c2⟩, hLB, hB⟩
          case measure => simp [intOf]; omega
    · obtain rfl : ix = 4 := by omega
      go_wp2
      go_ret2
      exact ⟨_, _, _, rfl, World.ownsRow.mono hown (by omega), hB⟩
end Go.Proofs.YtgjjmgneekjapaaDoor
