/- Contracts: the pairs of holes of a step. -/
import Derived.Test.YtgjjmgneekjapaaDoorPair
import Derived.Test.YtgjjmgneekjapaaDoorSeat
import Derived.Deep.Onto
namespace Go.Proofs.YtgjjmgneekjapaaDoor
open Go.RowKit
set_option linter.unusedVariables false
set_option linter.unusedSimpArgs false

def midI (f b k : Int) : Int := min (b - 1) (max 0 (k - (f - b) / 2))
def stepN (f s : Nat) (st : Int) : Nat := if st = 1 ∨ st = 3 then f else if st = 2 ∨ st = 4 then s else min f s
def stepP (f b : Nat) (st : Int) (k : Nat) : Int × Int := if st = 1 ∨ st = 3 then (k, midI f b k) else if st = 6 then ((f : Int) - 1 - k, k) else (k, k)
def pairsL (f b s : Nat) (st : Int) : List (Int × Int) := (List.range (stepN f s st)).map (stepP f b st)
theorem cell_one_new2 (w : World) (v : Value) (t B : Nat) (hB : B = w.heap.size) : ∀ j u, [v][j]? = some u → (w.alloc (.cells #[v] t)).cell? ((⟨B, 0, none⟩ : Addr).add j) = some u := by
  subst hB; exact cell_one_new w v t
theorem map_range_succ {α : Type} (P : Nat → α) (k : Nat) : (List.range (k + 1)).map P = (List.range k).map P ++ [P k] := by rw [List.range_succ, List.map_append]; rfl

theorem OwnP.next {w : World} {base n : Nat} {v : Value} {P : Nat → Int × Int} {k : Nat} {q : Int × Int} (h : OwnP w base v n ((List.range k).map P ++ [q])) (e : q = P k) : OwnP w base v n ((List.range (k + 1)).map P) := by
  rw [map_range_succ, ← e]; exact h
theorem below_app3 {W0 wr w1 : World} {B e size n : Nat} {v : Value} {xs : List Value} {o o2 : Obj} (hB : Below B W0 wr) (hs : B ≤ wr.heap.size) (hown : wr.ownsRow B e size v n xs) (hg : ((wr.alloc o).alloc o2).grownBy w1 v.ownBlock) : Below B W0 w1 :=
  ((hB.alloc hs o).alloc (by simp; omega) o2).grown hg (by simp; omega) (fun k hk => (World.ownsRow.lt hown k hk).1)
theorem OwnP.mono {w : World} {base base' : Nat} {v : Value} {n : Nat} {ps : List (Int × Int)} (h : OwnP w base v n ps) (hb : base' ≤ base) : OwnP w base' v n ps := by
  obtain ⟨hl, gs, h1, h2, h3, h4⟩ := h
  exact ⟨hl, gs, h1, World.ownsRow.mono h2 hb, h3, fun j g p hg hp => by obtain ⟨a1, a2, a3⟩ := h4 j g p hg hp; exact ⟨by omega, a2, a3⟩⟩
theorem OwnP.form {w : World} {base n : Nat} {v : Value} {ps : List (Int × Int)} (h : OwnP w base v n ps) : ∃ A c, v = .slice A n c := by
  obtain ⟨hl, gs, h1, h2, h3, h4⟩ := h
  rcases h2.2 with ⟨rfl, rfl⟩ | ⟨g, cap, cur, rfl, _⟩
  · exact ⟨_, _, rfl⟩
  · exact ⟨_, _, rfl⟩

theorem stepP_mid {f b k : Nat} {st : Int} (h : st = 1 ∨ st = 3) : stepP f b st k = ((k : Int), midI f b k) := by unfold stepP; rw [if_pos h]
theorem midI_eq {f b k h : Nat} (hh : ((f : Int) - b) / 2 = (h : Int)) : (if (if h < k then (k : Int) - h else 0) < (b : Int) - 1 then (if h < k then (k : Int) - h else 0) else (b : Int) - 1) = midI f b k := by
  unfold midI
  rw [hh]
  split <;> split at * <;> omega
set_option maxHeartbeats 2000000 in
theorem pairsOf_any (f b s : Nat) (st : Int) (w : World) (ho : okSeat f b s = true) (h1 : 1 ≤ st) (h6 : st ≤ 6) : Calls Tryd.prog 32 #[.agg #[.int .i64 f, .int .i64 b, .int .i64 s], .int .i64 st] w fun e w' =>
    ∃ A n c, e = .returned (.slice A n c) ∧ OwnP w' w.heap.size (.slice A n c) n (pairsL f b s st) ∧ Below w.heap.size w w' := by
  obtain ⟨⟨f0, f1⟩, ⟨b0, b1⟩, ⟨s0, s1⟩, hmod⟩ := (okSeat_iff _ _ _).1 ho
  obtain ⟨i0, hi0, hz0, hz1, hz2⟩ := info_parts info_ss
  have hcases : st = 1 ∨ st = 2 ∨ st = 3 ∨ st = 4 ∨ (st = 5 ∧ f ≤ s) ∨ (st = 5 ∧ s < f) ∨ (st = 6 ∧ f ≤ s) ∨ (st = 6 ∧ s < f) := by omega
  obtain ⟨h, hhd⟩ : ∃ h : Nat, f - b = 2 * h := ⟨(f - b) / 2, by omega⟩
  have hh : ((f : Int) - b) / 2 = (h : Int) := by omega
  clear ho hmod h1 h6
  rcases hcases with rfl | rfl | rfl | rfl | ⟨rfl, hfs⟩ | ⟨rfl, hsf⟩ | ⟨rfl, hfs⟩ | ⟨rfl, hsf⟩
  · have hv : pairsL f b s 1 = (List.range f).map (stepP f b 1) := by simp [pairsL, stepN]
    rw [hv]
    clear hv
    go_enter Tryd.func32, Tryd.ntmps32
    go_wp2_with fail
    go_loopw [5, 17] (fun v i wr => ∃ k : Nat, k ≤ f ∧ i = .int .i64 k ∧ OwnP wr (w.heap.size + 1) v k ((List.range k).map (stepP f b 1)) ∧ Below (w.heap.size + 1) (w.alloc (.cells #[.int .i64 f, .int .i64 b, .int .i64 s] 25)) wr) (fun _ i _ => f - (intOf i).toNat)
    case atStart =>
      refine ⟨0, Nat.zero_le _, rfl, ?_, ?_⟩
      · have h0 := OwnP.start (w.alloc (.cells #[.int .i64 f, .int .i64 b, .int .i64 s] 25)) (w.heap.size + 1) (by simp)
        rw [World.size_alloc] at h0
        exact h0
      · exact Below.alloc (Below.refl _ _) (by simp) _
    case round =>
      obtain ⟨k, hk, rfl, hP, hB⟩ := hrel
      have hc0 : wr.cell? ⟨w.heap.size, 0, none⟩ = some (.int .i64 f) := by rw [hB.cell (by simp)]; go_cell
      have hc1 : wr.cell? ⟨w.heap.size, 1, none⟩ = some (.int .i64 b) := by rw [hB.cell (by simp)]; go_cell
      have hbs := hB.size
      rw [World.size_alloc] at hbs
      by_cases hlt : k < f
      · obtain ⟨hl, gs, g1, g2, g3, g4⟩ := hP
        go_wp2_with (at_builtin; refine wpList_append_lies _ rfl _ _ 32 rfl (w.heap.size + 1) 37 i0 (.slice none 0 0) 1 24 Tryd.underlying32 hi0 hz0 hz1 hz2 rfl (by decide) _ _ _ rfl ((g2.alloc _).alloc _) ⟨wr.heap.size + 1, 0, none⟩ 1 1 [.slice (some ⟨wr.heap.size, 0, none⟩) 2 2] rfl rfl (cell_one_new2 _ _ _ _ (by simp)) (by simp [Value.oneCell']) (by decide) (by unfold maxLen; omega) (by omega) (by simp; omega) (wr.heap.size + 1 + 1) (by simp) ?_; intro gn cap w1 hown1 hgrow1 hat1 hlt1)
        go_roundw
        case rel =>
          have h5 := OwnP.app (p := (_, _)) hbs hl g1 g2 g3 g4 hown1 hgrow1 hat1
          exact ⟨k + 1, by omega, by go_num, OwnP.next h5 (by (rw [stepP_mid (by omega)]; exact congrArg (Prod.mk (k : Int)) (midI_eq (f := f) hh))), below_app3 hB hbs g2 hgrow1⟩
        case measure => simp [intOf]; omega
      · obtain rfl : k = f := by omega
        obtain ⟨A, c, rfl⟩ := OwnP.form hP
        go_wp2
        go_ret
        exact ⟨_, _, _, rfl, hP.mono (by omega), ((Below.refl _ _).alloc (Nat.le_refl _) _).trans (hB.mono (by simp))⟩
  · have hv : pairsL f b s 2 = (List.range s).map (stepP f b 2) := by simp [pairsL, stepN]
    rw [hv]
    clear hv
    go_enter Tryd.func32, Tryd.ntmps32
    go_wp2_with fail
    go_loopw [5, 44] (fun v i wr => ∃ k : Nat, k ≤ s ∧ i = .int .i64 k ∧ OwnP wr (w.heap.size + 1) v k ((List.range k).map (stepP f b 2)) ∧ Below (w.heap.size + 1) (w.alloc (.cells #[.int .i64 f, .int .i64 b, .int .i64 s] 25)) wr) (fun _ i _ => s - (intOf i).toNat)
    case atStart =>
      refine ⟨0, Nat.zero_le _, rfl, ?_, ?_⟩
      · have h0 := OwnP.start (w.alloc (.cells #[.int .i64 f, .int .i64 b, .int .i64 s] 25)) (w.heap.size + 1) (by simp)
        rw [World.size_alloc] at h0
        exact h0
      · exact Below.alloc (Below.refl _ _) (by simp) _
    case round =>
      obtain ⟨k, hk, rfl, hP, hB⟩ := hrel
      have hc0 : wr.cell? ⟨w.heap.size, 0, none⟩ = some (.int .i64 f) := by rw [hB.cell (by simp)]; go_cell
      have hc1 : wr.cell? ⟨w.heap.size, 1, none⟩ = some (.int .i64 b) := by rw [hB.cell (by simp)]; go_cell
      have hbs := hB.size
      rw [World.size_alloc] at hbs
      by_cases hlt : k < s
      · obtain ⟨hl, gs, g1, g2, g3, g4⟩ := hP
        go_wp2_with (at_builtin; refine wpList_append_lies _ rfl _ _ 32 rfl (w.heap.size + 1) 37 i0 (.slice none 0 0) 1 24 Tryd.underlying32 hi0 hz0 hz1 hz2 rfl (by decide) _ _ _ rfl ((g2.alloc _).alloc _) ⟨wr.heap.size + 1, 0, none⟩ 1 1 [.slice (some ⟨wr.heap.size, 0, none⟩) 2 2] rfl rfl (cell_one_new2 _ _ _ _ (by simp)) (by simp [Value.oneCell']) (by decide) (by unfold maxLen; omega) (by omega) (by simp; omega) (wr.heap.size + 1 + 1) (by simp) ?_; intro gn cap w1 hown1 hgrow1 hat1 hlt1)
        go_roundw
        case rel =>
          have h5 := OwnP.app (p := (_, _)) hbs hl g1 g2 g3 g4 hown1 hgrow1 hat1
          exact ⟨k + 1, by omega, by go_num, OwnP.next h5 (by (simp [stepP])), below_app3 hB hbs g2 hgrow1⟩
        case measure => simp [intOf]; omega
      · obtain rfl : k = s := by omega
        obtain ⟨A, c, rfl⟩ := OwnP.form hP
        go_wp2
        go_ret
        exact ⟨_, _, _, rfl, hP.mono (by omega), ((Below.refl _ _).alloc (Nat.le_refl _) _).trans (hB.mono (by simp))⟩
  · have hv : pairsL f b s 3 = (List.range f).map (stepP f b 3) := by simp [pairsL, stepN]
    rw [hv]
    clear hv
    go_enter Tryd.func32, Tryd.ntmps32
    go_wp2_with fail
    go_loopw [5, 17] (fun v i wr => ∃ k : Nat, k ≤ f ∧ i = .int .i64 k ∧ OwnP wr (w.heap.size + 1) v k ((List.range k).map (stepP f b 3)) ∧ Below (w.heap.size + 1) (w.alloc (.cells #[.int .i64 f, .int .i64 b, .int .i64 s] 25)) wr) (fun _ i _ => f - (intOf i).toNat)
    case atStart =>
      refine ⟨0, Nat.zero_le _, rfl, ?_, ?_⟩
      · have h0 := OwnP.start (w.alloc (.cells #[.int .i64 f, .int .i64 b, .int .i64 s] 25)) (w.heap.size + 1) (by simp)
        rw [World.size_alloc] at h0
        exact h0
      · exact Below.alloc (Below.refl _ _) (by simp) _
    case round =>
      obtain ⟨k, hk, rfl, hP, hB⟩ := hrel
      have hc0 : wr.cell? ⟨w.heap.size, 0, none⟩ = some (.int .i64 f) := by rw [hB.cell (by simp)]; go_cell
      have hc1 : wr.cell? ⟨w.heap.size, 1, none⟩ = some (.int .i64 b) := by rw [hB.cell (by simp)]; go_cell
      have hbs := hB.size
      rw [World.size_alloc] at hbs
      by_cases hlt : k < f
      · obtain ⟨hl, gs, g1, g2, g3, g4⟩ := hP
        go_wp2_with (at_builtin; refine wpList_append_lies _ rfl _ _ 32 rfl (w.heap.size + 1) 37 i0 (.slice none 0 0) 1 24 Tryd.underlying32 hi0 hz0 hz1 hz2 rfl (by decide) _ _ _ rfl ((g2.alloc _).alloc _) ⟨wr.heap.size + 1, 0, none⟩ 1 1 [.slice (some ⟨wr.heap.size, 0, none⟩) 2 2] rfl rfl (cell_one_new2 _ _ _ _ (by simp)) (by simp [Value.oneCell']) (by decide) (by unfold maxLen; omega) (by omega) (by simp; omega) (wr.heap.size + 1 + 1) (by simp) ?_; intro gn cap w1 hown1 hgrow1 hat1 hlt1)
        go_roundw
        case rel =>
          have h5 := OwnP.app (p := (_, _)) hbs hl g1 g2 g3 g4 hown1 hgrow1 hat1
          exact ⟨k + 1, by omega, by go_num, OwnP.next h5 (by (rw [stepP_mid (by omega)]; exact congrArg (Prod.mk (k : Int)) (midI_eq (f := f) hh))), below_app3 hB hbs g2 hgrow1⟩
        case measure => simp [intOf]; omega
      · obtain rfl : k = f := by omega
        obtain ⟨A, c, rfl⟩ := OwnP.form hP
        go_wp2
        go_ret
        exact ⟨_, _, _, rfl, hP.mono (by omega), ((Below.refl _ _).alloc (Nat.le_refl _) _).trans (hB.mono (by simp))⟩
  · have hv : pairsL f b s 4 = (List.range s).map (stepP f b 4) := by simp [pairsL, stepN]
    rw [hv]
    clear hv
    go_enter Tryd.func32, Tryd.ntmps32
    go_wp2_with fail
    go_loopw [5, 44] (fun v i wr => ∃ k : Nat, k ≤ s ∧ i = .int .i64 k ∧ OwnP wr (w.heap.size + 1) v k ((List.range k).map (stepP f b 4)) ∧ Below (w.heap.size + 1) (w.alloc (.cells #[.int .i64 f, .int .i64 b, .int .i64 s] 25)) wr) (fun _ i _ => s - (intOf i).toNat)
    case atStart =>
      refine ⟨0, Nat.zero_le _, rfl, ?_, ?_⟩
      · have h0 := OwnP.start (w.alloc (.cells #[.int .i64 f, .int .i64 b, .int .i64 s] 25)) (w.heap.size + 1) (by simp)
        rw [World.size_alloc] at h0
        exact h0
      · exact Below.alloc (Below.refl _ _) (by simp) _
    case round =>
      obtain ⟨k, hk, rfl, hP, hB⟩ := hrel
      have hc0 : wr.cell? ⟨w.heap.size, 0, none⟩ = some (.int .i64 f) := by rw [hB.cell (by simp)]; go_cell
      have hc1 : wr.cell? ⟨w.heap.size, 1, none⟩ = some (.int .i64 b) := by rw [hB.cell (by simp)]; go_cell
      have hbs := hB.size
      rw [World.size_alloc] at hbs
      by_cases hlt : k < s
      · obtain ⟨hl, gs, g1, g2, g3, g4⟩ := hP
        go_wp2_with (at_builtin; refine wpList_append_lies _ rfl _ _ 32 rfl (w.heap.size + 1) 37 i0 (.slice none 0 0) 1 24 Tryd.underlying32 hi0 hz0 hz1 hz2 rfl (by decide) _ _ _ rfl ((g2.alloc _).alloc _) ⟨wr.heap.size + 1, 0, none⟩ 1 1 [.slice (some ⟨wr.heap.size, 0, none⟩) 2 2] rfl rfl (cell_one_new2 _ _ _ _ (by simp)) (by simp [Value.oneCell']) (by decide) (by unfold maxLen; omega) (by omega) (by simp; omega) (wr.heap.size + 1 + 1) (by simp) ?_; intro gn cap w1 hown1 hgrow1 hat1 hlt1)
        go_roundw
        case rel =>
          have h5 := OwnP.app (p := (_, _)) hbs hl g1 g2 g3 g4 hown1 hgrow1 hat1
          exact ⟨k + 1, by omega, by go_num, OwnP.next h5 (by (simp [stepP])), below_app3 hB hbs g2 hgrow1⟩
        case measure => simp [intOf]; omega
      · obtain rfl : k = s := by omega
        obtain ⟨A, c, rfl⟩ := OwnP.form hP
        go_wp2
        go_ret
        exact ⟨_, _, _, rfl, hP.mono (by omega), ((Below.refl _ _).alloc (Nat.le_refl _) _).trans (hB.mono (by simp))⟩
  · have hv : pairsL f b s 5 = (List.range f).map (stepP f b 5) := by simp [pairsL, stepN, Nat.min_eq_left hfs]
    have hsf : ¬ s < f := by omega
    rw [hv]
    clear hv
    go_enter Tryd.func32, Tryd.ntmps32
    go_wp2_with fail
    go_loopw [5, 61] (fun v i wr => ∃ k : Nat, k ≤ f ∧ i = .int .i64 k ∧ OwnP wr (w.heap.size + 1) v k ((List.range k).map (stepP f b 5)) ∧ Below (w.heap.size + 1) (w.alloc (.cells #[.int .i64 f, .int .i64 b, .int .i64 s] 25)) wr) (fun _ i _ => f - (intOf i).toNat)
    case atStart =>
      refine ⟨0, Nat.zero_le _, rfl, ?_, ?_⟩
      · have h0 := OwnP.start (w.alloc (.cells #[.int .i64 f, .int .i64 b, .int .i64 s] 25)) (w.heap.size + 1) (by simp)
        rw [World.size_alloc] at h0
        exact h0
      · exact Below.alloc (Below.refl _ _) (by simp) _
    case round =>
      obtain ⟨k, hk, rfl, hP, hB⟩ := hrel
      have hc0 : wr.cell? ⟨w.heap.size, 0, none⟩ = some (.int .i64 f) := by rw [hB.cell (by simp)]; go_cell
      have hc1 : wr.cell? ⟨w.heap.size, 1, none⟩ = some (.int .i64 b) := by rw [hB.cell (by simp)]; go_cell
      have hbs := hB.size
      rw [World.size_alloc] at hbs
      by_cases hlt : k < f
      · obtain ⟨hl, gs, g1, g2, g3, g4⟩ := hP
        go_wp2_with (at_builtin; refine wpList_append_lies _ rfl _ _ 32 rfl (w.heap.size + 1) 37 i0 (.slice none 0 0) 1 24 Tryd.underlying32 hi0 hz0 hz1 hz2 rfl (by decide) _ _ _ rfl ((g2.alloc _).alloc _) ⟨wr.heap.size + 1, 0, none⟩ 1 1 [.slice (some ⟨wr.heap.size, 0, none⟩) 2 2] rfl rfl (cell_one_new2 _ _ _ _ (by simp)) (by simp [Value.oneCell']) (by decide) (by unfold maxLen; omega) (by omega) (by simp; omega) (wr.heap.size + 1 + 1) (by simp) ?_; intro gn cap w1 hown1 hgrow1 hat1 hlt1)
        go_roundw
        case rel =>
          have h5 := OwnP.app (p := (_, _)) hbs hl g1 g2 g3 g4 hown1 hgrow1 hat1
          exact ⟨k + 1, by omega, by go_num, OwnP.next h5 (by (simp [stepP])), below_app3 hB hbs g2 hgrow1⟩
        case measure => simp [intOf]; omega
      · obtain rfl : k = f := by omega
        obtain ⟨A, c, rfl⟩ := OwnP.form hP
        go_wp2
        go_ret
        exact ⟨_, _, _, rfl, hP.mono (by omega), ((Below.refl _ _).alloc (Nat.le_refl _) _).trans (hB.mono (by simp))⟩
  · have hv : pairsL f b s 5 = (List.range s).map (stepP f b 5) := by simp [pairsL, stepN, Nat.min_eq_right (Nat.le_of_lt hsf)]
    rw [hv]
    clear hv
    go_enter Tryd.func32, Tryd.ntmps32
    go_wp2_with fail
    go_loopw [5, 61] (fun v i wr => ∃ k : Nat, k ≤ s ∧ i = .int .i64 k ∧ OwnP wr (w.heap.size + 1) v k ((List.range k).map (stepP f b 5)) ∧ Below (w.heap.size + 1) (w.alloc (.cells #[.int .i64 f, .int .i64 b, .int .i64 s] 25)) wr) (fun _ i _ => s - (intOf i).toNat)
    case atStart =>
      refine ⟨0, Nat.zero_le _, rfl, ?_, ?_⟩
      · have h0 := OwnP.start (w.alloc (.cells #[.int .i64 f, .int .i64 b, .int .i64 s] 25)) (w.heap.size + 1) (by simp)
        rw [World.size_alloc] at h0
        exact h0
      · exact Below.alloc (Below.refl _ _) (by simp) _
    case round =>
      obtain ⟨k, hk, rfl, hP, hB⟩ := hrel
      have hc0 : wr.cell? ⟨w.heap.size, 0, none⟩ = some (.int .i64 f) := by rw [hB.cell (by simp)]; go_cell
      have hc1 : wr.cell? ⟨w.heap.size, 1, none⟩ = some (.int .i64 b) := by rw [hB.cell (by simp)]; go_cell
      have hbs := hB.size
      rw [World.size_alloc] at hbs
      by_cases hlt : k < s
      · obtain ⟨hl, gs, g1, g2, g3, g4⟩ := hP
        go_wp2_with (at_builtin; refine wpList_append_lies _ rfl _ _ 32 rfl (w.heap.size + 1) 37 i0 (.slice none 0 0) 1 24 Tryd.underlying32 hi0 hz0 hz1 hz2 rfl (by decide) _ _ _ rfl ((g2.alloc _).alloc _) ⟨wr.heap.size + 1, 0, none⟩ 1 1 [.slice (some ⟨wr.heap.size, 0, none⟩) 2 2] rfl rfl (cell_one_new2 _ _ _ _ (by simp)) (by simp [Value.oneCell']) (by decide) (by unfold maxLen; omega) (by omega) (by simp; omega) (wr.heap.size + 1 + 1) (by simp) ?_; intro gn cap w1 hown1 hgrow1 hat1 hlt1)
        go_roundw
        case rel =>
          have h5 := OwnP.app (p := (_, _)) hbs hl g1 g2 g3 g4 hown1 hgrow1 hat1
          exact ⟨k + 1, by omega, by go_num, OwnP.next h5 (by (simp [stepP])), below_app3 hB hbs g2 hgrow1⟩
        case measure => simp [intOf]; omega
      · obtain rfl : k = s := by omega
        obtain ⟨A, c, rfl⟩ := OwnP.form hP
        go_wp2
        go_ret
        exact ⟨_, _, _, rfl, hP.mono (by omega), ((Below.refl _ _).alloc (Nat.le_refl _) _).trans (hB.mono (by simp))⟩
  · have hv : pairsL f b s 6 = (List.range f).map (stepP f b 6) := by simp [pairsL, stepN, Nat.min_eq_left hfs]
    have hsf : ¬ s < f := by omega
    rw [hv]
    clear hv
    go_enter Tryd.func32, Tryd.ntmps32
    go_wp2_with fail
    go_loopw [5, 78] (fun v i wr => ∃ k : Nat, k ≤ f ∧ i = .int .i64 k ∧ OwnP wr (w.heap.size + 1) v k ((List.range k).map (stepP f b 6)) ∧ Below (w.heap.size + 1) (w.alloc (.cells #[.int .i64 f, .int .i64 b, .int .i64 s] 25)) wr) (fun _ i _ => f - (intOf i).toNat)
    case atStart =>
      refine ⟨0, Nat.zero_le _, rfl, ?_, ?_⟩
      · have h0 := OwnP.start (w.alloc (.cells #[.int .i64 f, .int .i64 b, .int .i64 s] 25)) (w.heap.size + 1) (by simp)
        rw [World.size_alloc] at h0
        exact h0
      · exact Below.alloc (Below.refl _ _) (by simp) _
    case round =>
      obtain ⟨k, hk, rfl, hP, hB⟩ := hrel
      have hc0 : wr.cell? ⟨w.heap.size, 0, none⟩ = some (.int .i64 f) := by rw [hB.cell (by simp)]; go_cell
      have hc1 : wr.cell? ⟨w.heap.size, 1, none⟩ = some (.int .i64 b) := by rw [hB.cell (by simp)]; go_cell
      have hbs := hB.size
      rw [World.size_alloc] at hbs
      by_cases hlt : k < f
      · obtain ⟨hl, gs, g1, g2, g3, g4⟩ := hP
        go_wp2_with (at_builtin; refine wpList_append_lies _ rfl _ _ 32 rfl (w.heap.size + 1) 37 i0 (.slice none 0 0) 1 24 Tryd.underlying32 hi0 hz0 hz1 hz2 rfl (by decide) _ _ _ rfl ((g2.alloc _).alloc _) ⟨wr.heap.size + 1, 0, none⟩ 1 1 [.slice (some ⟨wr.heap.size, 0, none⟩) 2 2] rfl rfl (cell_one_new2 _ _ _ _ (by simp)) (by simp [Value.oneCell']) (by decide) (by unfold maxLen; omega) (by omega) (by simp; omega) (wr.heap.size + 1 + 1) (by simp) ?_; intro gn cap w1 hown1 hgrow1 hat1 hlt1)
        go_roundw
        case rel =>
          have h5 := OwnP.app (p := (_, _)) hbs hl g1 g2 g3 g4 hown1 hgrow1 hat1
          exact ⟨k + 1, by omega, by go_num, OwnP.next h5 (by (simp [stepP])), below_app3 hB hbs g2 hgrow1⟩
        case measure => simp [intOf]; omega
      · obtain rfl : k = f := by omega
        obtain ⟨A, c, rfl⟩ := OwnP.form hP
        go_wp2
        go_ret
        exact ⟨_, _, _, rfl, hP.mono (by omega), ((Below.refl _ _).alloc (Nat.le_refl _) _).trans (hB.mono (by simp))⟩
  · have hv : pairsL f b s 6 = (List.range s).map (stepP f b 6) := by simp [pairsL, stepN, Nat.min_eq_right (Nat.le_of_lt hsf)]
    rw [hv]
    clear hv
    go_enter Tryd.func32, Tryd.ntmps32
    go_wp2_with fail
    go_loopw [5, 78] (fun v i wr => ∃ k : Nat, k ≤ s ∧ i = .int .i64 k ∧ OwnP wr (w.heap.size + 1) v k ((List.range k).map (stepP f b 6)) ∧ Below (w.heap.size + 1) (w.alloc (.cells #[.int .i64 f, .int .i64 b, .int .i64 s] 25)) wr) (fun _ i _ => s - (intOf i).toNat)
    case atStart =>
      refine ⟨0, Nat.zero_le _, rfl, ?_, ?_⟩
      · have h0 := OwnP.start (w.alloc (.cells #[.int .i64 f, .int .i64 b, .int .i64 s] 25)) (w.heap.size + 1) (by simp)
        rw [World.size_alloc] at h0
        exact h0
      · exact Below.alloc (Below.refl _ _) (by simp) _
    case round =>
      obtain ⟨k, hk, rfl, hP, hB⟩ := hrel
      have hc0 : wr.cell? ⟨w.heap.size, 0, none⟩ = some (.int .i64 f) := by rw [hB.cell (by simp)]; go_cell
      have hc1 : wr.cell? ⟨w.heap.size, 1, none⟩ = some (.int .i64 b) := by rw [hB.cell (by simp)]; go_cell
      have hbs := hB.size
      rw [World.size_alloc] at hbs
      by_cases hlt : k < s
      · obtain ⟨hl, gs, g1, g2, g3, g4⟩ := hP
        go_wp2_with (at_builtin; refine wpList_append_lies _ rfl _ _ 32 rfl (w.heap.size + 1) 37 i0 (.slice none 0 0) 1 24 Tryd.underlying32 hi0 hz0 hz1 hz2 rfl (by decide) _ _ _ rfl ((g2.alloc _).alloc _) ⟨wr.heap.size + 1, 0, none⟩ 1 1 [.slice (some ⟨wr.heap.size, 0, none⟩) 2 2] rfl rfl (cell_one_new2 _ _ _ _ (by simp)) (by simp [Value.oneCell']) (by decide) (by unfold maxLen; omega) (by omega) (by simp; omega) (wr.heap.size + 1 + 1) (by simp) ?_; intro gn cap w1 hown1 hgrow1 hat1 hlt1)
        go_roundw
        case rel =>
          have h5 := OwnP.app (p := (_, _)) hbs hl g1 g2 g3 g4 hown1 hgrow1 hat1
          exact ⟨k + 1, by omega, by go_num, OwnP.next h5 (by (simp [stepP])), below_app3 hB hbs g2 hgrow1⟩
        case measure => simp [intOf]; omega
      · obtain rfl : k = s := by omega
        obtain ⟨A, c, rfl⟩ := OwnP.form hP
        go_wp2
        go_ret
        exact ⟨_, _, _, rfl, hP.mono (by omega), ((Below.refl _ _).alloc (Nat.le_refl _) _).trans (hB.mono (by simp))⟩
end Go.Proofs.YtgjjmgneekjapaaDoor
