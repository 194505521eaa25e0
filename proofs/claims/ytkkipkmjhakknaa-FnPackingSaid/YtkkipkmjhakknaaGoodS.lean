/- The draw of goods. -/
import Derived.Test.YtkkipkmjhakknaaSrc2
import Derived.Test.YtkkipkmjhakknaaGood
namespace Go.Proofs.Ytkkipkmjhakknaa
open Go.RowKit
set_option linter.unusedVariables false
set_option linter.unusedSimpArgs false

theorem cell_two_new (w : World) (x y : Value) (t B : Nat) (hB : B = w.heap.size) : ∀ j u, [x, y][j]? = some u → (w.alloc (.cells #[x, y] t)).cell? ((⟨B, 0, none⟩ : Addr).add j) = some u := by
  intro j u hj
  subst hB
  match j, hj with
  | 0, hj => simp at hj; subst hj; simp [Addr.add]
  | 1, hj => simp at hj; subst hj; simp [Addr.add]
theorem OwnR.lt {w : World} {base : Nat} {A : Option Addr} {n c : Nat} {cs : List R2} (h : OwnR w base (.slice A n c) n cs) : ∀ g, blk A = some g → base ≤ g ∧ g < w.heap.size := by
  obtain ⟨xs, h, _, _⟩ := h
  exact fun g hg => World.ownsRow.lt h g (by rw [blk_own]; exact hg)
theorem ownR_app {w : World} {base q : Nat} {v : Value} {xs : List Value} {cs : List R2} {x : R2} (h : w.ownsRow base 37 2 v (q + 1) (xs ++ [.int .i64 x.1, .int .i64 x.2])) (hl : cs.length = q) (hr : RowR xs cs q) : ∃ C p, v = .slice C (q + 1) p ∧ OwnR w base (.slice C (q + 1) p) (q + 1) (cs ++ [x]) := by
  have hxs : xs.length = q * 2 := by have := h.1; simp at this; omega
  have hf : OwnR w base v (q + 1) (cs ++ [x]) := by
    refine ⟨_, h, by simp [hl], fun j y hj hy => ?_⟩
    by_cases hjq : j < q
    · rw [List.getElem?_append_left (by omega)] at hy
      obtain ⟨a, b⟩ := hr j y hjq hy
      exact ⟨by rw [List.getElem?_append_left (by omega)]; exact a, by rw [List.getElem?_append_left (by omega)]; exact b⟩
    · obtain rfl : j = q := by omega
      rw [List.getElem?_append_right (by omega)] at hy
      simp [hl] at hy
      subst hy
      refine ⟨?_, ?_⟩
      · rw [List.getElem?_append_right (by omega), show j * 2 - xs.length = 0 by omega]; rfl
      · rw [List.getElem?_append_right (by omega), show j * 2 + 1 - xs.length = 1 by omega]; rfl
  rcases h.2 with ⟨_, h0⟩ | ⟨g, cap, cur, hv, _⟩
  · omega
  · subst hv; exact ⟨_, _, rfl, hf⟩
theorem OwnR.start (w : World) (base : Nat) (hb : base ≤ w.heap.size) : OwnR (w.alloc (.cells #[] 37)) base (.slice (some ⟨w.heap.size, 0, none⟩) 0 0) 0 [] :=
  ⟨[], World.ownsRow_made _ _ _ hb (by unfold maxLen; omega) (by simp), rfl, fun j y hj => absurd hj (by omega)⟩
theorem Src.setCell' {w : World} {base p k q : Nat} (h : Src w base p k) (o : Nat) (v : Value) (hq : base ≤ q) (hne : q ≠ p) : Src (w.setCell ⟨q, o, none⟩ v) base p k := h.grown (grown_setCell w q o v) (fun g e => by injection e with e; subst e; exact ⟨hq, hne⟩)
def DrawnGoods (base p k : Nat) (w : World) (e : Ending) (w' : World) : Prop :=
  ∃ C q c cs, e = .returned (.slice C q c) ∧ OwnR w' w.heap.size (.slice C q c) q cs ∧ okGs cs = true ∧ q ≤ 5 ∧ (∀ x ∈ cs, x.1 ≤ 1000 ∧ x.2 ≤ 40) ∧ Src w' base p k ∧ w.grownBy w' (some p)
set_option maxHeartbeats 1000000 in
theorem l14Draw_any (base p k : Nat) (w : World) (h : Src w base p k) (hk : k ≤ 800000000000) : Calls Try.prog 59 #[.pointer (some ⟨p, 0, none⟩)] w (DrawnGoods base p (k + 50) w) := by
  obtain ⟨i0, hi0, hz0, hz1, hz2⟩ := info_parts info_R2
  have hlo := h.lo
  have hlt := h.lt
  go_enter Try.func59, Try.ntmps59
  go_wp2_with fail
  have ho := OwnR.start w w.heap.size (Nat.le_refl _)
  have hs0 := h.alloc (.cells #[] 37)
  have hg0 := grown_alloc (World.grownBy.refl w (some p)) (.cells #[] 37)
  (refine (pick_any _ _ _ _ _ hs0 (by omega) (by omega)).mono ?_)
  rintro e w1 ⟨m, rfl, m0, m1, hs1, hg1⟩
  obtain ⟨m, rfl⟩ := Int.eq_ofNat_of_zero_le m0
  replace ho : OwnR w1 w.heap.size (.slice (some ⟨w.heap.size, 0, none⟩) 0 0) 0 [] := ho.kept hg1 (.inr (by simp [Value.ownBlock]; omega))
  replace hg0 := World.grownBy.trans hg0 hg1
  clear hs0 hg1
  go_wp2_with fail
  go_loopw [3, 4] (fun v i wr => ∃ j q : Nat, j + q ≤ 5 ∧ i = .int .i64 j ∧ (∃ C c cs, v = .slice C q c ∧ OwnR wr w.heap.size (.slice C q c) q cs ∧ (∀ x ∈ cs, (1 ≤ x.1 ∧ x.1 ≤ 1000) ∧ 0 ≤ x.2 ∧ x.2 ≤ 40)) ∧ Src wr base p (k + 2 + 4 * q) ∧ w.grownBy wr (some p)) (fun _ i _ => (intOf i).toNat)
  case atStart => exact ⟨m, 0, by omega, rfl, ⟨_, _, _, rfl, ho, by simp⟩, hs1, hg0⟩
  case round =>
    clear ho hs1 hg0
    obtain ⟨j, q, hj, rfl, ⟨C, c, cs, rfl, ho, hcs⟩, hs, hg⟩ := hrel
    by_cases hj0 : 0 < j
    · go_wp2_with fail
      (refine (pick_any _ _ _ _ _ hs (by omega) (by omega)).mono ?_)
      rintro e w2 ⟨a, rfl, a0, a1, hs2, hg2⟩
      have hob := ho.lt
      have hne : ∀ g, blk C = some g → g ≠ p := fun g hg e => by have := (hob g hg).1; omega
      have ho2 : OwnR w2 w.heap.size (.slice C q c) q cs := ho.kept hg2 (by rw [blk_own]; cases hC : blk C with | none => exact .inl rfl | some g => right; intro e; injection e with e; exact hne g hC e)
      have hG2 := World.grownBy.trans hg hg2
      clear ho hs hg hg2
      go_wp2_with fail
      have hX := hs2.lt
      have c0 : (w2.alloc (.cells #[.int .i64 (50 * (1 + a)), .int .i64 0] 37)).cell? ⟨w2.heap.size, 0, none⟩ = some (.int .i64 (50 * (1 + a))) := by go_cell
      have c1 : (w2.alloc (.cells #[.int .i64 (50 * (1 + a)), .int .i64 0] 37)).cell? ⟨w2.heap.size, 1, none⟩ = some (.int .i64 0) := by go_cell
      have z1 : (w2.alloc (.cells #[.int .i64 (50 * (1 + a)), .int .i64 0] 37)).frozen? ⟨w2.heap.size, 1, none⟩ = false := by simp
      have hs3 := hs2.alloc (.cells #[.int .i64 (50 * (1 + a)), .int .i64 0] 37)
      have hG3 := grown_alloc hG2 (.cells #[.int .i64 (50 * (1 + a)), .int .i64 0] 37)
      have ho3 : OwnR (w2.alloc (.cells #[.int .i64 (50 * (1 + a)), .int .i64 0] 37)) w.heap.size (.slice C q c) q cs := ho2.kept (row := some p) (World.grownBy_alloc _ _ _) (by rw [blk_own]; cases hC : blk C with | none => exact .inl rfl | some g => right; intro e; injection e with e; exact hne g hC e)
      have hwX := hG2.size
      generalize w2.alloc (.cells #[.int .i64 (50 * (1 + a)), .int .i64 0] 37) = wa at *
      have hbX : ∀ g, blk C = some g → g ≠ w2.heap.size := fun g hg e => by have := (ho2.lt g hg).2; omega
      generalize w2.heap.size = X at *
      clear ho2 hG2 hs2
      (refine (pick_any _ _ _ _ _ hs3 (by omega) (by omega)).mono ?_)
      rintro e w3 ⟨b, rfl, b0, b1, hs4, hg4⟩
      have hn : ∀ o : Nat, some (⟨X, o, none⟩ : Addr).block ≠ some p := fun o e => by injection e with e; simp only at e; omega
      replace c0 := hg4.cell c0 (hn 0)
      have hltX := World.block_lt_of_cell? _ _ c1
      replace c1 := hg4.cell c1 (hn 1)
      replace z1 := (hg4.frozen_far ⟨X, 1, none⟩ hltX (hn 1)).trans z1
      replace ho3 : OwnR w3 w.heap.size (.slice C q c) q cs := ho3.kept hg4 (by rw [blk_own]; cases hC : blk C with | none => exact .inl rfl | some g => right; intro e; injection e with e; exact hne g hC e)
      have hG4 := World.grownBy.trans hG3 hg4
      clear hG3 hg4 hs3 hn
      have hs5 := hs4.setCell' 1 (.int .i64 b) (show base ≤ X by omega) (show X ≠ p by omega)
      have hG5 := World.grownBy.andThen hG4 (grown_setCell w3 X 1 (.int .i64 b)) (fun j e => by injection e with e; left; omega)
      have ho5 : OwnR (w3.setCell ⟨X, 1, none⟩ (.int .i64 b)) w.heap.size (.slice C q c) q cs := ho3.kept (grown_setCell w3 X 1 (.int .i64 b)) (by rw [blk_own]; cases hC : blk C with | none => exact .inl rfl | some g => right; intro e; injection e with e; exact hbX g hC e)
      have d0 : (w3.setCell ⟨X, 1, none⟩ (.int .i64 b)).cell? ⟨X, 0, none⟩ = some (.int .i64 (50 * (1 + a))) := by rw [World.cell?_setCell_other _ _ _ _ (by simp)]; exact c0
      have d1 : (w3.setCell ⟨X, 1, none⟩ (.int .i64 b)).cell? ⟨X, 1, none⟩ = some (.int .i64 b) := World.cell?_setCell_same _ _ _ c1
      have hsz : (w3.setCell ⟨X, 1, none⟩ (.int .i64 b)).heap.size = w3.heap.size := by simp
      have Hsz := Lib.hid hsz
      clear hsz
      have hwz := hG4.size
      obtain ⟨xs, hown, hlc, hrow⟩ := ho5
      have Hlc := Lib.hid hlc
      have Hnew := Lib.hid (cell_two_new (w3.setCell ⟨X, 1, none⟩ (.int .i64 b)) (.int .i64 (50 * (1 + a))) (.int .i64 b) 37 w3.heap.size Hsz.out.symm)
      clear hlc ho3
      go_wp2_with (at_builtin; refine wpList_append_own _ rfl _ _ 31 rfl w.heap.size 37 i0 (.agg #[.int .i64 0, .int .i64 0]) 2 16 Try.underlying31 hi0 hz0 hz1 hz2 rfl (by decide) _ _ _ rfl (hown.alloc _) ⟨w3.heap.size, 0, none⟩ 1 1 [.int .i64 (50 * (1 + a)), .int .i64 b] rfl rfl Hnew.out (ints_oneCell .i64 [50 * (1 + a), b]) (by unfold maxLen; omega) (by omega) (by simp; omega) ?_; intro v1 w6 hown1 hgrow1 _)
      replace hgrow1 : ((w3.setCell ⟨X, 1, none⟩ (.int .i64 b)).alloc _).grownBy w6 (Value.slice C q c).ownBlock := hgrow1
      rw [blk_own] at hgrow1
      have hs6 := (hs5.alloc _).grown hgrow1 (fun g e => by have := (hob g e).1; exact ⟨by omega, hne g e⟩)
      have hG6 := World.grownBy.andThen (grown_alloc hG5 _) hgrow1 (fun j e => .inl (hob j e).1)
      obtain ⟨C', c', rfl, ho6⟩ := ownR_app (x := (50 * (1 + a), b)) hown1 Hlc.out hrow
      go_roundw
      case rel =>
        refine ⟨j - 1, q + 1, by omega, by rw [show ((j - 1 : Nat) : Int) = (j : Int) - 1 by omega], ⟨_, _, _, rfl, ho6, fun x hx => ?_⟩, hs6.mono (by omega), hG6⟩
        rcases List.mem_append.1 hx with hx | hx
        · exact hcs x hx
        · simp at hx
          subst hx
          exact ⟨⟨by simp only; omega, by simp only; omega⟩, by simp only; omega, by simp only; omega⟩
      case measure => simp [intOf]; omega
    · obtain rfl : j = 0 := by omega
      go_wp2_with fail
      go_ret
      refine ⟨_, _, _, cs, rfl, ho, okGs_iff.2 ⟨fun x hx => (okG_iff x).2 (by have := hcs x hx; omega), ?_⟩, by omega, fun x hx => by have := hcs x hx; omega, hs.mono (by omega), hg⟩
      obtain ⟨_, _, hl, _⟩ := ho
      omega
end Go.Proofs.Ytkkipkmjhakknaa
