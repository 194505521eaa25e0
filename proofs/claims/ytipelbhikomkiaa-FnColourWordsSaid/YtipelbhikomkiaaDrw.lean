/- A drawn word: l12Draw, A2Word. -/
import Derived.Test.YtipelbhikomkiaaForS
import Derived.Test.YtipelbhikomkiaaA2
import Derived.Test.YtipelbhikomkiaaSrc2
namespace Go.Proofs.Ytipelbhikomkiaa
open Go.RowKit
set_option linter.unusedVariables false
set_option linter.unusedSimpArgs false

/-- A word of 1 to 10 letters from a to c. -/
structure Wd (s : ByteArray) : Prop where
  l1 : 1 ≤ s.size
  l2 : s.size ≤ 10
  rng : ∀ j, j < s.size → 97 ≤ bt s j ∧ bt s j ≤ 99
theorem bt_nums {xs : List Int} {j : Nat} {z : Int} (h : xs[j]? = some z) (h0 : 0 ≤ z) (h1 : z ≤ 255) : (bt (strOfNums xs) j : Int) = z := by
  unfold bt
  rw [strOfNums_data, List.getD_eq_getElem?_getD, List.getElem?_map, h]
  show ((UInt8.ofNat z.toNat).toNat : Int) = z
  rw [UInt8.toNat_ofNat']
  have : z.toNat % 256 = z.toNat := Nat.mod_eq_of_lt (by omega)
  show ((z.toNat % 256 : Nat) : Int) = z
  rw [this]; omega
theorem wd_nums {xs : List Int} (l1 : 1 ≤ xs.length) (l2 : xs.length ≤ 10) (h : ∀ z ∈ xs, 97 ≤ z ∧ z ≤ 99) : Wd (strOfNums xs) := by
  refine ⟨by rw [strOfNums_size]; exact l1, by rw [strOfNums_size]; exact l2, fun j hj => ?_⟩
  rw [strOfNums_size] at hj
  have hz := List.getElem?_eq_getElem hj
  have hm := h _ (List.mem_of_getElem? hz)
  have := bt_nums hz (by omega) (by omega)
  omega
theorem wd_ok {s : ByteArray} (h : Wd s) : okWord s = true := by
  rw [okWord_iff]
  refine ⟨?_, h.l1, by have := h.l2; omega⟩
  rw [List.all_eq_true]
  intro c hc
  obtain ⟨j, hj, rfl⟩ := List.mem_iff_getElem.1 hc
  have := h.rng j (by simpa using hj)
  unfold bt at this
  rw [List.getD_eq_getElem?_getD, List.getElem?_eq_getElem hj] at this
  unfold isCol
  rw [inB_iff]
  simp only [Option.getD_some] at this
  omega
def DrewWord (w : World) (e : Ending) (w' : World) : Prop := ∃ s, e = .returned (.string s) ∧ Wd s ∧ Below w.heap.size w w'
def DrewW (p : Nat) (w : World) (e : Ending) (w' : World) : Prop := ∃ s, e = .returned (.string s) ∧ Wd s ∧ Src w' p p 12 ∧ Below w.heap.size w w'
abbrev OwnB' (w : World) (base : Nat) (v : Value) (n : Nat) (xs : List Int) : Prop := w.ownsRow base 5 1 v n (xs.map (Value.int .u8))
theorem OwnB.lt {w : World} {base : Nat} {A : Option Addr} {n c : Nat} {zs : List Int} (h : OwnB w base (.slice A n c) n zs) : ∀ g, blk A = some g → base ≤ g ∧ g < w.heap.size := fun g hg => World.ownsRow.lt h g (by rw [blk_own]; exact hg)
theorem OwnB.grown {w w' : World} {base : Nat} {A : Option Addr} {n c : Nat} {zs : List Int} {r : Option Nat} (h : OwnB w base (.slice A n c) n zs) (hg : w.grownBy w' r) (hne : ∀ g, r = some g → blk A ≠ some g) : OwnB w' base (.slice A n c) n zs := by
  refine World.ownsRow.kept h hg ?_
  rw [blk_own]
  rcases r with _ | g
  · cases hA : blk A <;> simp
  · exact .inr (hne g rfl)
theorem ownB_app1 {w1 : World} {base q : Nat} {v1 : Value} {L : List Int} {z : Int} (h : w1.ownsRow base 5 1 v1 (q + 1) (L.map (Value.int .u8) ++ [.int .u8 z])) : ∃ C p, v1 = .slice C (q + 1) p ∧ OwnB w1 base (.slice C (q + 1) p) (q + 1) (L ++ [z]) := by
  have e : L.map (Value.int .u8) ++ [.int .u8 z] = (L ++ [z]).map (Value.int .u8) := by simp
  rw [e] at h
  rcases h.2 with ⟨_, h0⟩ | ⟨g, cap, cur, hv, _⟩
  · omega
  · subst hv; exact ⟨_, _, rfl, h⟩
theorem ownB_app2 {w1 : World} {base q r : Nat} {v1 : Value} {L M : List Int} (h : w1.ownsRow base 5 1 v1 (q + r) (L.map (Value.int .u8) ++ M.map (Value.int .u8))) (hq : 0 < q + r) : ∃ C p, v1 = .slice C (q + r) p ∧ OwnB w1 base (.slice C (q + r) p) (q + r) (L ++ M) := by
  rw [← List.map_append] at h
  rcases h.2 with ⟨_, h0⟩ | ⟨g, cap, cur, hv, _⟩
  · omega
  · subst hv; exact ⟨_, _, rfl, h⟩
theorem abc_at {v : Int} (v0 : 0 ≤ v) (v1 : v ≤ 2) : ∃ (h : v.toNat < (⟨#[97, 98, 99]⟩ : ByteArray).size), 97 ≤ (((⟨#[97, 98, 99]⟩ : ByteArray)[v.toNat]'h).toNat : Int) ∧ (((⟨#[97, 98, 99]⟩ : ByteArray)[v.toNat]'h).toNat : Int) ≤ 99 := by
  obtain rfl | rfl | rfl : v = 0 ∨ v = 1 ∨ v = 2 := by omega
  all_goals exact ⟨by decide, by decide, by decide⟩
set_option maxHeartbeats 1000000 in
theorem l12Draw_any (p : Nat) (w : World) (hs0 : Src w p p 0) (hp : p < w.heap.size) : Calls Try.prog 60 #[.pointer (some ⟨p, 0, none⟩)] w (fun e w' => ∃ s, e = .returned (.string s) ∧ Wd s ∧ Src w' p p 16 ∧ w.grownBy w' (some p)) := by
  obtain ⟨i0, hi0, hz0, hz1, hz2⟩ := info_parts info_u8
  go_enter Try.func60, Try.ntmps60
  go_wp2_with fail
  refine (pick_any 5 p p 0 _ (hs0.alloc _) (by omega) (by omega)).mono ?_
  rintro e w1 ⟨v, rfl, v0, v1, hs1, hg1⟩
  have hG1 := World.grownBy.trans (World.grownBy_alloc w _ (some p)) hg1
  have hz1 := hg1.size
  simp at hz1
  obtain ⟨v, rfl⟩ := Int.eq_ofNat_of_zero_le v0
  go_wp2_with fail
  go_loopw [3, 4] (fun v i wr => ∃ k : Nat, i = .int .i64 k ∧ (∃ C q c xs, v = .slice C q c ∧ OwnB wr w.heap.size (.slice C q c) q xs ∧ q + k ≤ 5 ∧ 1 ≤ q + k ∧ (∀ z ∈ xs, 97 ≤ z ∧ z ≤ 99) ∧ Src wr p p (2 + 2 * q)) ∧ w.grownBy wr (some p)) (fun _ i _ => (intOf i).toNat)
  case atStart => exact ⟨v + 1, by go_num, ⟨_, 0, _, [], rfl, OwnB.grown (World.ownsRow_made _ _ _ (by omega) (by unfold maxLen; omega) (by simp)) hg1 (fun g e hC => by injection e with e; simp [blk] at hC; omega), by omega, by omega, fun _ h => absurd h (by simp), hs1⟩, hG1⟩
  case round =>
    clear hs1 hg1 hz1 hG1
    obtain ⟨k, rfl, ⟨C, q, c, xs, rfl, hown, q5, q1, hx, hs⟩, hg⟩ := hrel
    have hsz := hg.size
    by_cases hk : 0 < k
    · go_wp2_with fail
      refine (pick_any 3 p p _ wr hs (by omega) (by omega)).mono ?_
      rintro e w2 ⟨u, rfl, u0, u1, hs2, hg2⟩
      have hob := OwnB.lt hown
      have hne : ∀ g, some p = some g → blk C ≠ some g := fun g e hC => by injection e with e; have := (hob g hC).1; omega
      replace hown := OwnB.grown hown hg2 hne
      have hG2 := World.grownBy.trans hg hg2
      clear hs hg hg2 hob hsz
      have hob := OwnB.lt hown
      have hsz2 := hG2.size
      obtain ⟨hu, a0, a1⟩ := abc_at u0 (show u ≤ 2 by omega)
      have u3 : u < 3 := by omega
      generalize hc : ((⟨#[97, 98, 99]⟩ : ByteArray)[u.toNat]'hu).toNat = ch at *
      have c0 : (97 : Int) ≤ (ch : Int) ∧ (ch : Int) ≤ 99 := ⟨a0, a1⟩
      go_wp2_with (at_builtin; refine wpList_append_own _ rfl _ _ 47 rfl w.heap.size 5 i0 (.int .u8 0) 1 1 Try.underlying47 hi0 hz0 hz1 hz2 rfl (by decide) _ _ _ rfl (hown.alloc _) ⟨_, 0, none⟩ 1 1 [.int .u8 (ch : Int)] rfl rfl (cell_one_new _ _ _) (ints_oneCell .u8 [(ch : Int)]) (by unfold maxLen; omega) (by omega) (by simp; omega) ?_; intro v1 w3 hown1 hgrow1 _)
      replace hgrow1 : (w2.alloc _).grownBy w3 (Value.slice C q c).ownBlock := hgrow1
      rw [blk_own] at hgrow1
      have hs3 := (hs2.alloc _).grown hgrow1 (fun g e => ⟨by have := (hob g e).1; omega, by have := (hob g e).1; omega⟩)
      have hG3 := World.grownBy.andThen (grown_alloc hG2 _) hgrow1 (fun j e => .inl (hob j e).1)
      obtain ⟨C', c', rfl, ho⟩ := ownB_app1 hown1
      go_roundw
      case rel =>
        refine ⟨k - 1, by go_num, ⟨_, _, _, _, rfl, ho, by omega, by omega, fun z hz => ?_, hs3.mono (by omega)⟩, hG3⟩
        rcases List.mem_append.1 hz with hz | hz
        · exact hx z hz
        · simp at hz; omega
      case measure => simp [intOf]; omega
    · obtain rfl : k = 0 := by omega
      go_wp2_with fail
      refine (one_any 4 p p _ wr hs (by omega) (by omega)).mono ?_
      rintro e w2 ⟨b, rfl, hs2, hg2⟩
      have hob := OwnB.lt hown
      have hne : ∀ g, some p = some g → blk C ≠ some g := fun g e hC => by injection e with e; have := (hob g hC).1; omega
      replace hown := OwnB.grown hown hg2 hne
      have hG2 := World.grownBy.trans hg hg2
      clear hs hg hg2 hob hsz
      have hob := OwnB.lt hown
      have hsz2 := hG2.size
      have hl : xs.length = q := by simpa using hown.1
      have HL := Lib.hid hl
      clear hl
      cases b
      · have kc := ownB_conv hown
        go_wp2_with fail
        go_ret
        exact ⟨_, rfl, wd_nums (by rw [HL.out]; omega) (by rw [HL.out]; omega) hx, hs2.mono (by omega), hG2⟩
      · obtain ⟨g, rfl⟩ : ∃ g, C = some ⟨g, 0, none⟩ := by
          rcases hown.2 with ⟨_, h2⟩ | ⟨g, cap, cur, hv, _⟩
          · omega
          · exact ⟨g, by simp at hv; exact hv.1⟩
        have hnews : ∀ j u, (xs.map (Value.int .u8))[j]? = some u → w2.cell? ((⟨g, 0, none⟩ : Addr).add j) = some u := fun j u hu => by
          have hj : j < (xs.map (Value.int .u8)).length := (List.getElem?_eq_some_iff.1 hu).1
          have e : (⟨g, 0, none⟩ : Addr).add j = ⟨g, j, none⟩ := by unfold Addr.add; split <;> simp_all
          rw [e, World.ownsRow.cellAt hown j (by simp at hj; rw [HL.out] at hj; omega)]
          exact hu
        have HN := Box0.mk hnews
        have hl2 : (xs.map (Value.int .u8)).length = q * 1 := by simp [HL.out]
        have HL2 := Lib.hid hl2
        clear hnews hl2
        go_wp2_with (at_builtin; refine wpList_append_own _ rfl _ _ 47 rfl w.heap.size 5 i0 (.int .u8 0) 1 1 Try.underlying47 hi0 hz0 hz1 hz2 rfl (by decide) _ _ _ rfl hown ⟨g, 0, none⟩ q c (xs.map (Value.int .u8)) rfl HL2.out HN.out (ints_oneCell .u8 xs) (by unfold maxLen; omega) (by omega) (by omega) ?_; intro v1 w3 hown1 hgrow1 _; obtain ⟨C', c', rfl, ho⟩ := ownB_app2 hown1 (by omega); have kc := ownB_conv ho)
        go_ret
        replace hgrow1 : w2.grownBy w3 (Value.slice _ q c).ownBlock := hgrow1
        rw [blk_own] at hgrow1
        have hs3 := hs2.grown hgrow1 (fun g e => ⟨by have := (hob g e).1; omega, by have := (hob g e).1; omega⟩)
        have hG3 := World.grownBy.andThen hG2 hgrow1 (fun j e => .inl (hob j e).1)
        refine ⟨_, rfl, wd_nums (by rw [List.length_append, HL.out]; omega) (by rw [List.length_append, HL.out]; omega) (fun z hz => ?_), hs3.mono (by omega), hG3⟩
        rcases List.mem_append.1 hz with hz | hz <;> exact hx z hz
theorem a2Word_any (A : Option Addr) (n c : Nat) (w : World) (h : Bytes w w.heap.size A n) : Calls Try.prog 39 #[.slice A n c] w (DrewWord w) := by
  go_enter Try.func39, Try.ntmps39
  go_wp2_with fail
  refine (l00From_any _ _ _ _ _ h (Nat.le_refl _)).mono ?_
  rintro e w1 ⟨rfl, hs1, hB⟩
  have hlt1 := hs1.lt
  go_wp2_with fail
  refine (l12Draw_any w.heap.size w1 hs1 hlt1).mono ?_
  rintro e w2 ⟨s, rfl, hw, hs2, hg⟩
  go_wp2_with fail
  go_ret
  exact ⟨s, rfl, hw, hB.grown hg (by omega) (fun g e => by injection e with e; omega)⟩
end Go.Proofs.Ytipelbhikomkiaa
