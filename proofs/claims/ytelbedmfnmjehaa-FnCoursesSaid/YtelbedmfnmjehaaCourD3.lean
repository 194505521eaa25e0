/- The draws of rounds: a list of rounds. -/
import Derived.Test.YtelbedmfnmjehaaCourD2
namespace Go.Proofs.Ytelbedmfnmjehaa
open Go.RowKit
set_option linter.unusedVariables false
set_option linter.unusedSimpArgs false

theorem cell_three_new (w : World) (x y z : Value) (t B : Nat) (hB : B = w.heap.size) : ∀ j u, [x, y, z][j]? = some u → (w.alloc (.cells #[x, y, z] t)).cell? ((⟨B, 0, none⟩ : Addr).add j) = some u := by
  intro j u hj
  subst hB
  match j, hj with
  | 0, hj => simp at hj; subst hj; simp [Addr.add]
  | 1, hj => simp at hj; subst hj; simp [Addr.add]
  | 2, hj => simp at hj; subst hj; simp [Addr.add]
theorem OwnR.lt' {w : World} {base : Nat} {A : Option Addr} {n c : Nat} {cs : List R3} (h : OwnR w base (.slice A n c) n cs) : ∀ g, blk A = some g → base ≤ g ∧ g < w.heap.size := by
  obtain ⟨xs, h, _, _⟩ := h
  exact fun g hg => World.ownsRow.lt h g (by rw [blk_own]; exact hg)
theorem ownR_app {w : World} {base q : Nat} {v : Value} {xs : List Value} {cs : List R3} {x : R3} (h : w.ownsRow base 26 3 v (q + 1) (xs ++ [.int .i64 x.1, .int .i64 x.2.1, .int .i64 x.2.2])) (hl : cs.length = q) (hr : RowR xs cs q) : ∃ C p, v = .slice C (q + 1) p ∧ OwnR w base (.slice C (q + 1) p) (q + 1) (cs ++ [x]) := by
  have hxs : xs.length = q * 3 := by have := h.1; simp at this; omega
  have hf : OwnR w base v (q + 1) (cs ++ [x]) := by
    refine ⟨_, h, by simp [hl], fun j y hj hy => ?_⟩
    by_cases hjq : j < q
    · rw [List.getElem?_append_left (by omega)] at hy
      obtain ⟨a, b, c⟩ := hr j y hjq hy
      exact ⟨by rw [List.getElem?_append_left (by omega)]; exact a, by rw [List.getElem?_append_left (by omega)]; exact b, by rw [List.getElem?_append_left (by omega)]; exact c⟩
    · obtain rfl : j = q := by omega
      rw [List.getElem?_append_right (by omega)] at hy
      simp [hl] at hy
      subst hy
      refine ⟨?_, ?_, ?_⟩
      · rw [List.getElem?_append_right (by omega), show j * 3 - xs.length = 0 by omega]; rfl
      · rw [List.getElem?_append_right (by omega), show j * 3 + 1 - xs.length = 1 by omega]; rfl
      · rw [List.getElem?_append_right (by omega), show j * 3 + 2 - xs.length = 2 by omega]; rfl
  rcases h.2 with ⟨_, h0⟩ | ⟨g, cap, cur, hv, _⟩
  · omega
  · subst hv; exact ⟨_, _, rfl, hf⟩
theorem OwnR.start (w : World) (base : Nat) (hb : base ≤ w.heap.size) : OwnR (w.alloc (.cells #[] 26)) base (.slice (some ⟨w.heap.size, 0, none⟩) 0 0) 0 [] :=
  ⟨[], World.ownsRow_made _ _ _ hb (by unfold maxLen; omega) (by simp), rfl, fun j y hj => absurd hj (by omega)⟩
/-- The first record's cells, in place. -/
theorem OwnR.b3 {w : World} {base g n c : Nat} {cs : List R3} (h : OwnR w base (.slice (some ⟨g, 0, none⟩) n c) n cs) (hn : 0 < n) : ∃ x : R3, B3 w g x.1 x.2.1 x.2.2 := by
  obtain ⟨xs, h, hl, hr⟩ := h
  obtain ⟨x, hx⟩ : ∃ x, cs[0]? = some x := ⟨_, List.getElem?_eq_getElem (show 0 < cs.length by omega)⟩
  obtain ⟨a, b, c⟩ := hr 0 x hn hx
  refine ⟨x, ⟨?_, ?_, ?_, World.ownsRow.frozenAt h 0, World.ownsRow.frozenAt h 1, World.ownsRow.frozenAt h 2⟩⟩
  · rw [World.ownsRow.cellAt h 0 (by omega)]; exact a
  · rw [World.ownsRow.cellAt h 1 (by omega)]; exact b
  · rw [World.ownsRow.cellAt h 2 (by omega)]; exact c
/-- One of the first record's cells is written. -/
theorem OwnR.poke {w : World} {base g n c o : Nat} {cs : List R3} (h : OwnR w base (.slice (some ⟨g, 0, none⟩) n c) n cs) (hn : 0 < n) (ho : o ≤ 2) (v : Int) : ∃ ds, OwnR (w.setCell ⟨g, o, none⟩ (.int .i64 v)) base (.slice (some ⟨g, 0, none⟩) n c) n ds := by
  obtain ⟨xs, h, hl, hr⟩ := h
  have hs := (World.ownsRow.stored h o (.int .i64 v)).1
  have hxl := h.1
  obtain ⟨x, hx⟩ : ∃ x, cs[0]? = some x := ⟨_, List.getElem?_eq_getElem (show 0 < cs.length by omega)⟩
  obtain ⟨a, b, c⟩ := hr 0 x hn hx
  have key : ∃ y : R3, (xs.set o (.int .i64 v))[0 * 3]? = some (.int .i64 y.1) ∧ (xs.set o (.int .i64 v))[0 * 3 + 1]? = some (.int .i64 y.2.1) ∧ (xs.set o (.int .i64 v))[0 * 3 + 2]? = some (.int .i64 y.2.2) := by
    rcases (show o = 0 ∨ o = 1 ∨ o = 2 by omega) with rfl | rfl | rfl
    · exact ⟨(v, x.2.1, x.2.2), by rw [List.getElem?_set_self (by omega)], by rw [List.getElem?_set_ne (by omega)]; exact b, by rw [List.getElem?_set_ne (by omega)]; exact c⟩
    · exact ⟨(x.1, v, x.2.2), by rw [List.getElem?_set_ne (by omega)]; exact a, by rw [List.getElem?_set_self (by omega)], by rw [List.getElem?_set_ne (by omega)]; exact c⟩
    · exact ⟨(x.1, x.2.1, v), by rw [List.getElem?_set_ne (by omega)]; exact a, by rw [List.getElem?_set_ne (by omega)]; exact b, by rw [List.getElem?_set_self (by omega)]⟩
  obtain ⟨y, y0, y1, y2⟩ := key
  refine ⟨cs.set 0 y, _, hs, by simp [hl], fun j z hj hz => ?_⟩
  rcases Nat.eq_zero_or_pos j with rfl | hj0
  · rw [List.getElem?_set_self (by omega)] at hz
    injection hz with hz
    subst hz
    exact ⟨y0, y1, y2⟩
  · rw [List.getElem?_set_ne (by omega)] at hz
    obtain ⟨p0, p1, p2⟩ := hr j z hj hz
    exact ⟨by rw [List.getElem?_set_ne (by omega)]; exact p0, by rw [List.getElem?_set_ne (by omega)]; exact p1, by rw [List.getElem?_set_ne (by omega)]; exact p2⟩
def DrawnL (base p k : Nat) (w : World) (e : Ending) (w' : World) : Prop :=
  ∃ C q c cs, e = .returned (.slice C q c) ∧ OwnR w' w.heap.size (.slice C q c) q cs ∧ q ≤ 61 ∧ q ≤ c ∧ Src w' base p k ∧ w.grownBy w' (some p)
theorem kept_p {w w' : World} {base p n c : Nat} {C : Option Addr} {cs : List R3} (h : OwnR w base (.slice C n c) n cs) (hg : w.grownBy w' (some p)) (hne : ∀ g, blk C = some g → g ≠ p) : OwnR w' base (.slice C n c) n cs :=
  h.kept hg (by rw [blk_own]; cases hC : blk C with | none => exact .inl rfl | some g => right; intro e; injection e with e; exact hne g hC e)
theorem ownR_cap {w : World} {base n c : Nat} {C : Option Addr} {cs : List R3} (h : OwnR w base (.slice C n c) n cs) : n ≤ c := by
  obtain ⟨xs, h, hl, hr⟩ := h
  rcases h.2 with ⟨hv, h0⟩ | ⟨g, cap, cur, hv, _, _, hcap, _⟩
  · simp at hv; omega
  · simp at hv; omega
set_option maxHeartbeats 1000000 in
theorem l13Draw_any (base p k : Nat) (w : World) (h : Src w base p k) (hk : k ≤ 700000000000) : Calls Try.prog 78 #[.pointer (some ⟨p, 0, none⟩)] w (DrawnL base p (k + 1000) w) := by
  obtain ⟨i0, hi0, hz0, hz1, hz2⟩ := info_parts info_R3
  have hlo := h.lo
  have hlt := h.lt
  go_enter Try.func78, Try.ntmps78
  go_wp2_with fail
  have ho := OwnR.start w w.heap.size (Nat.le_refl _)
  have hs0 := h.alloc (.cells #[] 26)
  have hg0 := grown_alloc (World.grownBy.refl w (some p)) (.cells #[] 26)
  (refine (pick_any _ _ _ _ _ hs0 (by omega) (by omega)).mono ?_)
  rintro e w1 ⟨m, rfl, m0, m1, hs1, hg1⟩
  have hne0 : ∀ g, blk (some (⟨w.heap.size, 0, none⟩ : Addr)) = some g → g ≠ p := fun g e => by simp [blk] at e; omega
  replace ho := kept_p ho hg1 hne0
  replace hg0 := World.grownBy.trans hg0 hg1
  clear hs0 hg1
  go_wp2_with fail
  (refine (one_any _ _ _ _ _ hs1 (by omega) (by omega)).mono ?_)
  rintro e w2 ⟨t, rfl, hs2, hg2⟩
  replace ho := kept_p ho hg2 hne0
  replace hg0 := World.grownBy.trans hg0 hg2
  clear hs1 hg2
  cases t
  · obtain ⟨m, rfl⟩ := Int.eq_ofNat_of_zero_le m0
    replace hs2 := hs2.mono (m := k + 6) (by omega)
    have hm : m ≤ 61 := by omega
    clear m0 m1
    go_wp2_with fail
    go_loopw [3, 5] (fun v i wr => ∃ j q : Nat, j + q = m ∧ i = .int .i64 j ∧ (∃ C c cs, v = .slice C q c ∧ OwnR wr w.heap.size (.slice C q c) q cs) ∧ Src wr base p (k + 6 + 10 * q) ∧ w.grownBy wr (some p)) (fun _ i _ => (intOf i).toNat)
    case atStart => exact ⟨m, 0, by omega, rfl, ⟨_, _, _, rfl, ho⟩, hs2, hg0⟩
    case round =>
      clear ho hs2 hg0
      obtain ⟨j, q, hj, rfl, ⟨C, c, cs, rfl, ho⟩, hs, hg⟩ := hrel
      have hob := ho.lt'
      have hne : ∀ g, blk C = some g → g ≠ p := fun g hg e => by have := (hob g hg).1; omega
      by_cases hj0 : 0 < j
      · go_wp2_with fail
        refine (l13New_any _ _ _ _ hs (by omega)).mono ?_
        rintro e w4 ⟨f, b, s, rfl, hs4, hg4⟩
        replace ho := kept_p ho hg4 hne
        have hG4 := World.grownBy.trans hg hg4
        have hwz := hG4.size
        obtain ⟨xs, hown, hlc, hrow⟩ := ho
        have Hlc := Lib.hid hlc
        have Hnew := Lib.hid (cell_three_new w4 (.int .i64 f) (.int .i64 b) (.int .i64 s) 26 w4.heap.size rfl)
        clear hlc hs hg hg4
        go_wp2_with (at_builtin; refine wpList_append_own _ rfl _ _ 37 rfl w.heap.size 26 i0 (.agg #[.int .i64 0, .int .i64 0, .int .i64 0]) 3 24 Try.underlying37 hi0 hz0 hz1 hz2 rfl (by decide) _ _ _ rfl (hown.alloc _) ⟨w4.heap.size, 0, none⟩ 1 1 [.int .i64 f, .int .i64 b, .int .i64 s] rfl rfl Hnew.out (ints_oneCell .i64 [f, b, s]) (by unfold maxLen; omega) (by omega) (by simp; omega) ?_; intro v1 w6 hown1 hgrow1 _)
        replace hgrow1 : (w4.alloc _).grownBy w6 (Value.slice C q c).ownBlock := hgrow1
        rw [blk_own] at hgrow1
        have hs6 := (hs4.alloc _).grown hgrow1 (fun g e => by have := (hob g e).1; exact ⟨by omega, hne g e⟩)
        have hG6 := World.grownBy.andThen (grown_alloc hG4 _) hgrow1 (fun j e => .inl (hob j e).1)
        obtain ⟨C', c', rfl, ho6⟩ := ownR_app (x := (f, b, s)) hown1 Hlc.out hrow
        go_roundw
        case rel => exact ⟨j - 1, q + 1, by omega, by rw [show ((j - 1 : Nat) : Int) = (j : Int) - 1 by omega], ⟨_, _, _, rfl, ho6⟩, hs6.mono (by omega), hG6⟩
        case measure => simp [intOf]; omega
      · obtain rfl : j = 0 := by omega
        obtain rfl : q = m := by omega
        rcases Nat.eq_zero_or_pos q with rfl | hq
        · go_wp2_with fail
          go_ret
          exact ⟨_, _, _, _, rfl, ho, by omega, ownR_cap ho, hs.mono (by omega), hg⟩
        · go_wp2_with fail
          (refine (one_any _ _ _ _ _ hs (by omega) (by omega)).mono ?_)
          rintro e w4 ⟨t2, rfl, hs4, hg4⟩
          replace ho := kept_p ho hg4 hne
          have hG4 := World.grownBy.trans hg hg4
          cases t2
          · go_wp2_with fail
            go_ret
            exact ⟨_, _, _, _, rfl, ho, by omega, ownR_cap ho, hs4.mono (by omega), hG4⟩
          · obtain ⟨g, rfl⟩ : ∃ g, C = some ⟨g, 0, none⟩ := by
              obtain ⟨xs, h3, _, _⟩ := ho
              rcases h3.2 with ⟨_, h2⟩ | ⟨g, cap, cur, hv, _⟩
              · omega
              · exact ⟨g, by simp at hv; exact hv.1⟩
            obtain ⟨x, hx3⟩ := ho.b3 hq
            have hgp : g ≠ p := hne g rfl
            have hgb := (hob g rfl).1
            have k0 : (0 : Int) < (q : Int) := by omega
            go_wp2_with fail
            refine (l13Spoil_any _ _ _ g _ _ _ _ hs4 (by omega) hx3 hgp).mono ?_
            rintro e w5 ⟨w6, o, v, ho2, rfl, rfl, hs5, hg5⟩
            replace ho := kept_p ho hg5 hne
            obtain ⟨ds, ho7⟩ := ho.poke hq ho2 v
            have hs7 := hs5.setCell o (.int .i64 v) (show base ≤ g by omega) hgp
            have hG7 := World.grownBy.andThen (World.grownBy.trans hG4 hg5) (grown_setCell w6 g o (.int .i64 v)) (fun j e => by injection e with e; left; omega)
            go_wp2_with fail
            go_ret
            exact ⟨_, _, _, _, rfl, ho7, by omega, ownR_cap ho7, hs7.mono (by omega), hG7⟩
  · go_wp2_with fail
    (refine (pick_any _ _ _ _ _ hs2 (by omega) (by omega)).mono ?_)
    rintro e w3 ⟨b, rfl, b0, b1, hs3, hg3⟩
    replace ho := kept_p ho hg3 hne0
    replace hg0 := World.grownBy.trans hg0 hg3
    obtain ⟨b, rfl⟩ := Int.eq_ofNat_of_zero_le b0
    replace hs2 := hs3.mono (m := k + 6) (by omega)
    clear hs3 hg3 m0 m1
    go_wp2_with fail
    have eb : (60 : Int) + (b : Int) = ((60 + b : Nat) : Int) := by omega
    rw [eb]
    clear eb
    generalize hmm : 60 + b = m
    have hm : m ≤ 61 := by omega
    clear hmm b0 b1
    go_loopw [3, 5] (fun v i wr => ∃ j q : Nat, j + q = m ∧ i = .int .i64 j ∧ (∃ C c cs, v = .slice C q c ∧ OwnR wr w.heap.size (.slice C q c) q cs) ∧ Src wr base p (k + 6 + 10 * q) ∧ w.grownBy wr (some p)) (fun _ i _ => (intOf i).toNat)
    case atStart => exact ⟨m, 0, by omega, rfl, ⟨_, _, _, rfl, ho⟩, hs2, hg0⟩
    case round =>
      clear ho hs2 hg0
      obtain ⟨j, q, hj, rfl, ⟨C, c, cs, rfl, ho⟩, hs, hg⟩ := hrel
      have hob := ho.lt'
      have hne : ∀ g, blk C = some g → g ≠ p := fun g hg e => by have := (hob g hg).1; omega
      by_cases hj0 : 0 < j
      · go_wp2_with fail
        refine (l13New_any _ _ _ _ hs (by omega)).mono ?_
        rintro e w4 ⟨f, b, s, rfl, hs4, hg4⟩
        replace ho := kept_p ho hg4 hne
        have hG4 := World.grownBy.trans hg hg4
        have hwz := hG4.size
        obtain ⟨xs, hown, hlc, hrow⟩ := ho
        have Hlc := Lib.hid hlc
        have Hnew := Lib.hid (cell_three_new w4 (.int .i64 f) (.int .i64 b) (.int .i64 s) 26 w4.heap.size rfl)
        clear hlc hs hg hg4
        go_wp2_with (at_builtin; refine wpList_append_own _ rfl _ _ 37 rfl w.heap.size 26 i0 (.agg #[.int .i64 0, .int .i64 0, .int .i64 0]) 3 24 Try.underlying37 hi0 hz0 hz1 hz2 rfl (by decide) _ _ _ rfl (hown.alloc _) ⟨w4.heap.size, 0, none⟩ 1 1 [.int .i64 f, .int .i64 b, .int .i64 s] rfl rfl Hnew.out (ints_oneCell .i64 [f, b, s]) (by unfold maxLen; omega) (by omega) (by simp; omega) ?_; intro v1 w6 hown1 hgrow1 _)
        replace hgrow1 : (w4.alloc _).grownBy w6 (Value.slice C q c).ownBlock := hgrow1
        rw [blk_own] at hgrow1
        have hs6 := (hs4.alloc _).grown hgrow1 (fun g e => by have := (hob g e).1; exact ⟨by omega, hne g e⟩)
        have hG6 := World.grownBy.andThen (grown_alloc hG4 _) hgrow1 (fun j e => .inl (hob j e).1)
        obtain ⟨C', c', rfl, ho6⟩ := ownR_app (x := (f, b, s)) hown1 Hlc.out hrow
        go_roundw
        case rel => exact ⟨j - 1, q + 1, by omega, by rw [show ((j - 1 : Nat) : Int) = (j : Int) - 1 by omega], ⟨_, _, _, rfl, ho6⟩, hs6.mono (by omega), hG6⟩
        case measure => simp [intOf]; omega
      · obtain rfl : j = 0 := by omega
        obtain rfl : q = m := by omega
        rcases Nat.eq_zero_or_pos q with rfl | hq
        · go_wp2_with fail
          go_ret
          exact ⟨_, _, _, _, rfl, ho, by omega, ownR_cap ho, hs.mono (by omega), hg⟩
        · go_wp2_with fail
          (refine (one_any _ _ _ _ _ hs (by omega) (by omega)).mono ?_)
          rintro e w4 ⟨t2, rfl, hs4, hg4⟩
          replace ho := kept_p ho hg4 hne
          have hG4 := World.grownBy.trans hg hg4
          cases t2
          · go_wp2_with fail
            go_ret
            exact ⟨_, _, _, _, rfl, ho, by omega, ownR_cap ho, hs4.mono (by omega), hG4⟩
          · obtain ⟨g, rfl⟩ : ∃ g, C = some ⟨g, 0, none⟩ := by
              obtain ⟨xs, h3, _, _⟩ := ho
              rcases h3.2 with ⟨_, h2⟩ | ⟨g, cap, cur, hv, _⟩
              · omega
              · exact ⟨g, by simp at hv; exact hv.1⟩
            obtain ⟨x, hx3⟩ := ho.b3 hq
            have hgp : g ≠ p := hne g rfl
            have hgb := (hob g rfl).1
            have k0 : (0 : Int) < (q : Int) := by omega
            go_wp2_with fail
            refine (l13Spoil_any _ _ _ g _ _ _ _ hs4 (by omega) hx3 hgp).mono ?_
            rintro e w5 ⟨w6, o, v, ho2, rfl, rfl, hs5, hg5⟩
            replace ho := kept_p ho hg5 hne
            obtain ⟨ds, ho7⟩ := ho.poke hq ho2 v
            have hs7 := hs5.setCell o (.int .i64 v) (show base ≤ g by omega) hgp
            have hG7 := World.grownBy.andThen (World.grownBy.trans hG4 hg5) (grown_setCell w6 g o (.int .i64 v)) (fun j e => by injection e with e; left; omega)
            go_wp2_with fail
            go_ret
            exact ⟨_, _, _, _, rfl, ho7, by omega, ownR_cap ho7, hs7.mono (by omega), hG7⟩
end Go.Proofs.Ytelbedmfnmjehaa
