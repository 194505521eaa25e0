/- Contracts of the copies, comparisons and marks of slices of Good. Printed by genrec.py (mine). -/
import Derived.Test.YtkkipkmjhakknaaMem
import Derived.Deep.Fields
import Derived.Deep.Strs
namespace Go.Proofs.Ytkkipkmjhakknaa
open Go.RowKit
set_option linter.unusedVariables false
set_option linter.unusedSimpArgs false

abbrev R2 : Type := Int × Int
theorem info_R2 : (Try.prog.info? 37).map (fun i => (i.zero, i.size, i.bytes)) = some (some (.agg #[.int .i64 0, .int .i64 0]), 2, 16) := by kernel_rfl

/-- The slice A, n of structs reads as the records cs. -/
def Recs (w : World) (A : Option Addr) (n : Nat) (cs : List R2) : Prop :=
  cs.length = n ∧ (0 < n → ∃ b off, A = some ⟨b, off, none⟩ ∧ b < w.heap.size ∧ ∀ (j : Nat) (x : R2), cs[j]? = some x → w.cell? ⟨b, off + j * 2, none⟩ = some (.int .i64 x.1) ∧ w.cell? ⟨b, off + j * 2 + 1, none⟩ = some (.int .i64 x.2))
theorem Recs.keep {w w' : World} {A : Option Addr} {n : Nat} {cs : List R2} (h : Recs w A n cs) (hb : Below w.heap.size w w') : Recs w' A n cs :=
  ⟨h.1, fun hn => by
    obtain ⟨b, off, e, hlt, hc⟩ := h.2 hn
    refine ⟨b, off, e, Nat.lt_of_lt_of_le hlt hb.size, fun j x hx => ?_⟩
    obtain ⟨hx0, hx1⟩ := hc j x hx
    exact ⟨(hb.cell (p := ⟨b, off + j * 2, none⟩) hlt).trans hx0, (hb.cell (p := ⟨b, off + j * 2 + 1, none⟩) hlt).trans hx1⟩⟩
theorem Recs.drewN {w : World} {A : Option Addr} {n : Nat} {cs : List R2} (h : Recs w A n cs) (k : Nat) : Recs (w.drewN k) A n cs := h
theorem Recs.drew {w : World} {A : Option Addr} {n : Nat} {cs : List R2} (h : Recs w A n cs) : Recs w.drew A n cs := h
theorem Recs.alloc {w : World} {A : Option Addr} {n : Nat} {cs : List R2} (h : Recs w A n cs) (o : Obj) : Recs (w.alloc o) A n cs := h.keep ((Below.refl _ _).alloc (Nat.le_refl _) o)
theorem Recs.at_ {w : World} {A : Option Addr} {n : Nat} {cs : List R2} (h : Recs w A n cs) {k : Nat} (hk : k < n) :
    ∃ b off x, A = some ⟨b, off, none⟩ ∧ b < w.heap.size ∧ cs[k]? = some x ∧ w.cell? ⟨b, off + k * 2, none⟩ = some (.int .i64 x.1) ∧ w.cell? ⟨b, off + k * 2 + 1, none⟩ = some (.int .i64 x.2) := by
  obtain ⟨b, off, e, hb, hc⟩ := h.2 (by omega)
  have hz : cs[k]? = some (cs[k]'(by rw [h.1]; exact hk)) := List.getElem?_eq_getElem _
  exact ⟨b, off, _, e, hb, hz, hc _ _ hz⟩

/-- The cells of the first k records. -/
def RowR (xs : List Value) (cs : List R2) (k : Nat) : Prop := ∀ (j : Nat) (x : R2), j < k → cs[j]? = some x → xs[j * 2]? = some (.int .i64 x.1) ∧ xs[j * 2 + 1]? = some (.int .i64 x.2)
/-- The call's own row of structs. -/
def OwnR (w : World) (base : Nat) (v : Value) (n : Nat) (cs : List R2) : Prop := ∃ xs, w.ownsRow base 37 2 v n xs ∧ cs.length = n ∧ RowR xs cs n
theorem OwnR.recs {w : World} {base : Nat} {A : Option Addr} {n c : Nat} {cs : List R2} (h : OwnR w base (.slice A n c) n cs) : Recs w A n cs := by
  obtain ⟨xs, h, hl, hr⟩ := h
  refine ⟨hl, fun hn => ?_⟩
  rcases h.2 with ⟨h1, h2⟩ | ⟨g, cap, cur, hv, hg, hh, hc, hm, hs, ht⟩
  · omega
  · have hA : A = some ⟨g, 0, none⟩ ∧ c = cap := by simpa using hv
    obtain ⟨rfl, rfl⟩ := hA
    refine ⟨g, 0, rfl, (World.ownsRow.lt h g (by simp [Value.ownBlock])).2, fun j x hx => ?_⟩
    have hj : j < n := by
      have := (List.getElem?_eq_some_iff.1 hx).1
      omega
    obtain ⟨hx0, hx1⟩ := hr j x hj hx
    exact ⟨by rw [Nat.zero_add, World.ownsRow.cellAt h (j * 2) (by omega), hx0], by rw [Nat.zero_add, World.ownsRow.cellAt h (j * 2 + 1) (by omega), hx1]⟩
theorem OwnR.kept {w w' : World} {row : Option Nat} {base : Nat} {v : Value} {n : Nat} {cs : List R2} (h : OwnR w base v n cs) (hg : w.grownBy w' row) (hne : v.ownBlock = none ∨ v.ownBlock ≠ row) : OwnR w' base v n cs := by
  obtain ⟨xs, h, hl, hr⟩ := h
  exact ⟨xs, h.kept hg hne, hl, hr⟩

theorem ownR_full {w : World} {base g n c : Nat} {xs : List Value} (h : w.ownsRow base 37 2 (.slice (some ⟨g, 0, none⟩) n c) n xs) {j : Nat} (hj : j < n * 2) : ∃ u, w.cell? ⟨g, j, none⟩ = some u := by
  rw [World.ownsRow.cellAt h j hj]
  have := h.1
  exact ⟨xs[j]'(by omega), List.getElem?_eq_getElem _⟩
theorem rowR_set {xs : List Value} {cs : List R2} {k : Nat} {x : R2} (h : RowR xs cs k) (hx : cs[k]? = some x) (hl : k * 2 + 1 < xs.length) :
    RowR ((xs.set (k * 2) (.int .i64 x.1)).set (k * 2 + 1) (.int .i64 x.2)) cs (k + 1) := by
  intro j y hj hy
  rcases Nat.lt_succ_iff_lt_or_eq.1 hj with hj | rfl
  · obtain ⟨hx0, hx1⟩ := h j y hj hy
    refine ⟨?_, ?_⟩
    · rw [List.getElem?_set_ne (by omega), List.getElem?_set_ne (by omega), hx0]
    · rw [List.getElem?_set_ne (by omega), List.getElem?_set_ne (by omega), hx1]
  · rw [hx] at hy
    injection hy with hy
    subst hy
    refine ⟨?_, ?_⟩
    · rw [List.getElem?_set_ne (by omega), List.getElem?_set_self (by first | omega | (simp; omega))]
    · rw [List.getElem?_set_self (by first | omega | (simp; omega))]


theorem toGood_rec (x : R2) (w : World) : Calls Try.prog 67 #[.agg #[.int .i64 x.1, .int .i64 x.2]] w fun e w' => e = .returned (.agg #[.int .i64 x.1, .int .i64 x.2]) ∧ Below w.heap.size w w' := by
  go_enter Try.func67, Try.ntmps67
  go_wp2
  go_returns
  exact ⟨rfl, by go_grown⟩
theorem toGoodS_any (A : Option Addr) (n c : Nat) (cs : List R2) (w : World) (h : Recs w A n cs) (hn : n ≤ 1048576) : Calls Try.prog 28 #[.slice A n c] w fun e w' =>
    e = .returned (.slice (some ⟨w.heap.size, 0, none⟩) n n) ∧ OwnR w' w.heap.size (.slice (some ⟨w.heap.size, 0, none⟩) n n) n cs ∧ Below w.heap.size w w' := by
  obtain ⟨i0, hi0, hz0, hz1, hz2⟩ := info_parts info_R2
  have hbytes : i0.bytes * n ≤ 281474976710656 := by rw [hz2]; omega
  have hmx : n ≤ maxLen := by unfold maxLen; omega
  have HL := Lib.hid h.1
  go_enter Try.func28, Try.ntmps28
  go_wp2_with (at_make; refine wpList_make_full _ rfl _ _ _ rfl w.heap.size 37 i0 (.agg #[.int .i64 0, .int .i64 0]) 2 Try.underlying31 hi0 hz0 hz1 .i64 .i64 n n n rfl rfl rfl rfl hbytes hmx (Nat.le_refl _) ?_; intro w1 hown hg)
  have hb1 : Below w.heap.size w w1 := (Below.refl _ _).grown hg (Nat.le_refl _) (by simp)
  go_loopw [4] (fun i wr => ∃ k : Nat, k ≤ n ∧ i = .int .i64 k ∧ (∃ xs, wr.ownsRow w.heap.size 37 2 (.slice (some ⟨w.heap.size, 0, none⟩) n n) n xs ∧ RowR xs cs k) ∧ Below w.heap.size w wr) (fun i _ => n - (intOf i).toNat)
  case atStart => exact ⟨0, Nat.zero_le _, rfl, ⟨_, hown, fun j _ hj _ => absurd hj (by omega)⟩, hb1⟩
  case round =>
    clear hown hb1 hg
    obtain ⟨k, hk, rfl, ⟨xs, hown, hrow⟩, hb1⟩ := hrel
    by_cases hlt : k < n
    · obtain ⟨b, off, x, rfl, hblt, hx, hcx0, hcx1⟩ := (h.keep hb1).at_ hlt
      have Hx := Lib.hid hx
      clear hx
      go_wp2_with fail
      refine (toGood_rec x _).mono ?_
      rintro e w2 ⟨rfl, hb2⟩
      have hown2 := hown.kept (w' := w2) (row := none) ⟨hb2.os, hb2.tape, hb2.output, hb2.size, fun k hk _ => hb2.block k hk⟩ (by simp [Value.ownBlock])
      have hl := hown2.1
      obtain ⟨u0, hu0⟩ := ownR_full hown2 (j := k * 2) (by omega)
      obtain ⟨u1, hu1⟩ := ownR_full hown2 (j := k * 2 + 1) (by omega)
      have hf0 := World.ownsRow.frozenAt hown2 (k * 2)
      have hf1 := World.ownsRow.frozenAt hown2 (k * 2 + 1)
      have Hl := Lib.hid hl
      clear hl
      go_wp2
      go_roundw
      case rel =>
        have hb3 := belowT hb2 hb1
        have hs0 := (World.ownsRow.stored hown2 (k * 2) (.int .i64 x.1)).1
        have hs1 := (World.ownsRow.stored hs0 (k * 2 + 1) (.int .i64 x.2)).1
        refine ⟨k + 1, by omega, by go_num, ⟨_, hs1, rowR_set hrow Hx.out (by rw [Hl.out]; omega)⟩, ?_⟩
        exact Below.setCell (Below.setCell hb3 (Nat.le_refl _) _) (Nat.le_refl _) _
      case measure => simp [intOf]; omega
    · obtain rfl : k = n := by omega
      go_wp2
      go_ret
      exact ⟨rfl, ⟨xs, hown, HL.out, hrow⟩, hb1⟩


/-- Both records are the same. -/
def eqR (x y : R2) : Bool := decide (x.1 = y.1) && decide (x.2 = y.2)
theorem eqR_iff (x y : R2) : eqR x y = true ↔ x = y := by
  obtain ⟨x0, x1⟩ := x
  obtain ⟨y0, y1⟩ := y
  simp [eqR]
theorem eqR_dec (x y : R2) : eqR x y = decide (x = y) := by rw [Bool.eq_iff_iff, eqR_iff, decide_eq_true_iff]
theorem eqGood_any (x y : R2) (w : World) : Calls Try.prog 68 #[.agg #[.int .i64 x.1, .int .i64 x.2], .agg #[.int .i64 y.1, .int .i64 y.2]] w fun e w' => e = .returned (.bool (eqR x y)) ∧ Below w.heap.size w w' := by
  by_cases e0 : x.1 = y.1
  case neg =>
    have t0 : (x.1 != y.1) = true := by simpa using e0
    have hv : eqR x y = false := by simp [eqR, e0]
    clear e0
    go_enter Try.func68, Try.ntmps68
    go_wp2
    go_ret
    exact ⟨by rw [hv]; rfl, by go_grown⟩
  have t0 : (x.1 != y.1) = false := by simpa using e0
  by_cases e1 : x.2 = y.2
  case neg =>
    have t1 : (x.2 != y.2) = true := by simpa using e1
    have hv : eqR x y = false := by simp [eqR, e1]
    clear e1 e0
    go_enter Try.func68, Try.ntmps68
    go_wp2
    go_ret
    exact ⟨by rw [hv]; rfl, by go_grown⟩
  have t1 : (x.2 != y.2) = false := by simpa using e1
  have hv : eqR x y = true := by simp [eqR, e0, e1]
  clear e0 e1
  go_enter Try.func68, Try.ntmps68
  go_wp2
  go_ret
  exact ⟨by rw [hv]; rfl, by go_grown⟩

def EqTillR (cs ds : List R2) (k : Nat) : Prop := ∀ j, j < k → cs[j]? = ds[j]?
theorem eqTillR_succ {zs ys : List R2} {k : Nat} {z y : R2} (h : EqTillR zs ys k) (hz : zs[k]? = some z) (hy : ys[k]? = some y) (e : z = y) : EqTillR zs ys (k + 1) := fun j hj => by
  rcases Nat.lt_succ_iff_lt_or_eq.1 hj with h1 | rfl
  · exact h j h1
  · rw [hz, hy, e]
theorem eqR_of_till {zs ys : List R2} {n : Nat} (hz : zs.length = n) (hy : ys.length = n) (h : EqTillR zs ys n) : zs = ys := by
  apply List.ext_getElem?
  intro j
  by_cases hj : j < n
  · exact h j hj
  · rw [List.getElem?_eq_none (by omega), List.getElem?_eq_none (by omega)]
theorem neR_of_at {zs ys : List R2} {k : Nat} {z y : R2} (hz : zs[k]? = some z) (hy : ys[k]? = some y) (e : ¬ z = y) : ¬ zs = ys := fun h => by
  subst h; rw [hz] at hy; injection hy with hy; exact e hy

theorem eqGood_eq (x y : R2) (v : Bool) (w : World) (h : eqR x y = v) : Calls Try.prog 68 #[.agg #[.int .i64 x.1, .int .i64 x.2], .agg #[.int .i64 y.1, .int .i64 y.2]] w fun e w' => e = .returned (.bool v) ∧ Below w.heap.size w w' := by
  subst h; exact eqGood_any x y w
theorem eqGoodS_any (A B : Option Addr) (n p c d : Nat) (cs ds : List R2) (w : World) (h : Recs w A n cs) (g : Recs w B p ds) (hn : n ≤ 1048576) (hp : p ≤ 1048576) : Calls Try.prog 30 #[.slice A n c, .slice B p d] w fun e w' =>
    e = .returned (.bool (decide (cs = ds))) ∧ Below w.heap.size w w' := by
  by_cases hnm : n = p
  case neg =>
    have hne : ((n : Int) != (p : Int)) = true := by rw [bne_iff_ne]; omega
    have hv : decide (cs = ds) = false := by rw [decide_eq_false_iff_not]; intro e; exact hnm (by rw [← h.1, ← g.1, e])
    rw [hv]
    clear hv hnm
    go_enter Try.func30, Try.ntmps30
    go_wp2
    go_ret
    exact ⟨rfl, Below.refl _ _⟩
  subst hnm
  have hne : ((n : Int) != (n : Int)) = false := by simp
  go_enter Try.func30, Try.ntmps30
  go_wp2
  go_loopw [5] (fun i wr => ∃ k : Nat, k ≤ n ∧ i = .int .i64 k ∧ EqTillR cs ds k ∧ Below w.heap.size w wr) (fun i _ => n - (intOf i).toNat)
  case atStart => exact ⟨0, Nat.zero_le _, rfl, fun _ hj => absurd hj (by omega), Below.refl _ _⟩
  case round =>
    obtain ⟨k, hk, rfl, he, hbw⟩ := hrel
    by_cases hlt : k < n
    · obtain ⟨b, off, x, rfl, hblt, hx, hcx0, hcx1⟩ := (h.keep hbw).at_ hlt
      obtain ⟨b2, off2, y, rfl, hblt2, hy, hdx0, hdx1⟩ := (g.keep hbw).at_ hlt
      have Hx := Lib.hid hx
      have Hy := Lib.hid hy
      clear hx hy
      have k0 : (0 : Int) ≤ (k : Int) := by omega
      have k1 : (k : Int) < (n : Int) := by omega
      cases hxy : eqR x y
      · go_wp2
        go_region_held3 (fun w' => w'.cell? ⟨b, off + k * 2, none⟩ = some (.int .i64 x.1) ∧ w'.cell? ⟨b, off + k * 2 + 1, none⟩ = some (.int .i64 x.2) ∧ w'.cell? ⟨b2, off2 + k * 2, none⟩ = some (.int .i64 y.1) ∧ w'.cell? ⟨b2, off2 + k * 2 + 1, none⟩ = some (.int .i64 y.2) ∧ Below w.heap.size w w')
          (((try go_split_ands); (try dsimp only); (repeat' apply And.intro)) <;> first | assumption | exact keepd (by assumption) | exact Below.drew (by assumption) | exact keepc hb2 (by assumption) | exact belowT hb2 (by assumption))
          ((go_at_call 68; refine (eqGood_eq x y _ _ hxy).mono ?_; rintro e w' ⟨rfl, hb2⟩))
        go_wp2
        go_ret
        exact ⟨ret_bool (by symm; rw [decide_eq_false_iff_not]; exact neR_of_at Hx.out Hy.out (fun e => by rw [(eqR_iff x y).2 e] at hxy; cases hxy)), by go_split_ands; assumption⟩
      · go_wp2
        go_region_held3 (fun w' => w'.cell? ⟨b, off + k * 2, none⟩ = some (.int .i64 x.1) ∧ w'.cell? ⟨b, off + k * 2 + 1, none⟩ = some (.int .i64 x.2) ∧ w'.cell? ⟨b2, off2 + k * 2, none⟩ = some (.int .i64 y.1) ∧ w'.cell? ⟨b2, off2 + k * 2 + 1, none⟩ = some (.int .i64 y.2) ∧ Below w.heap.size w w')
          (((try go_split_ands); (try dsimp only); (repeat' apply And.intro)) <;> first | assumption | exact keepd (by assumption) | exact Below.drew (by assumption) | exact keepc hb2 (by assumption) | exact belowT hb2 (by assumption))
          ((go_at_call 68; refine (eqGood_eq x y _ _ hxy).mono ?_; rintro e w' ⟨rfl, hb2⟩))
        go_wp2
        go_roundw
        case rel => exact ⟨k + 1, by omega, by go_num, eqTillR_succ he Hx.out Hy.out ((eqR_iff x y).1 hxy), by go_split_ands; assumption⟩
        case measure => simp [intOf]; omega
    · obtain rfl : k = n := by omega
      go_wp2
      go_ret
      exact ⟨ret_bool (by symm; rw [decide_eq_true_iff]; exact eqR_of_till h.1 g.1 he), hbw⟩

theorem szGoodS_big (A : Option Addr) (n c : Nat) (l : Int) (w : World) (hn : n ≤ 9223372036854775807) (l0 : 0 ≤ l) (l1 : l ≤ 1048576) (h : l < n) : Calls Try.prog 26 #[.slice A n c, .int .i64 l] w fun e w' =>
    e = .returned (.int .i64 (-1)) ∧ w = w' := by
  go_enter Try.func26, Try.ntmps26
  go_wp2
  go_ret
  exact ⟨rfl, rfl⟩
theorem szGoodS_small (A : Option Addr) (n c : Nat) (l : Int) (w : World) (l1 : l ≤ 1048576) (h : (n : Int) ≤ l) : Calls Try.prog 26 #[.slice A n c, .int .i64 l] w fun e w' =>
    e = .returned (.int .i64 (l - n)) ∧ w = w' := by
  go_enter Try.func26, Try.ntmps26
  go_wp2
  go_ret
  exact ⟨rfl, rfl⟩

/-- What the row's step hands on of a slice of structs that came in. -/
def IsRecs2 (w : World) (A : Option Addr) (n : Nat) (cs : List R2) : Prop := n ≤ maxLen ∧ Recs w A n cs ∧ ∀ x ∈ cs, (Lit.int .i64 x.1).wf = true ∧ (Lit.int .i64 x.2).wf = true
section
open Go.ChangeShapes Go.WideShapes Go.Deep
theorem isRecs2_of_trod {H : Type} {enc : TypeId × Value → H} {P : Program} {W : World} {base : Nat} {spare : Nat → Bool} {held : Bool} {t e ti : TypeId} {f0 f1 : Field} {fuel : Nat} {A : Option Addr} {n c : Nat} {x : DataW H × List MemPlace}
    (ht : P.underlying t = some (.slice e)) (he : P.underlying e = some (.struct #[f0, f1])) (hi : P.underlying ti = some (.int .i64)) (hone : oneCellFields P #[f0, f1] = true) (hC : P.cellsOf e = 2) (t0 : f0.type = ti) (t1 : f1.type = ti)
    (hf : DataW.trod enc P W base spare held fuel t (Value.cells (.slice A n c)).toList = some x) : ∃ cs, IsRecs2 W A n cs := by
  rcases open_slice ht hf with ⟨hcs, _⟩ | ⟨a, l, c', mm, q, D, Pl, hcs, _, hl, hm, hmm, _, hel⟩
  · simp [Value.cells] at hcs
    obtain ⟨rfl, rfl, rfl⟩ := hcs
    exact ⟨[], Nat.zero_le _, ⟨rfl, fun h => absurd h (by omega)⟩, fun z hz => by simp at hz⟩
  · simp [Value.cells] at hcs
    obtain ⟨rfl, rfl, rfl⟩ := hcs
    have hle : n ≤ mm := by rw [hmm]; split <;> omega
    have each : ∀ i, i < n → ∃ y : R2, W.cell? (a.add (i * 2 + 0)) = some (.int .i64 y.1) ∧ W.cell? (a.add (i * 2 + 1)) = some (.int .i64 y.2) ∧ (Lit.int .i64 y.1).wf = true ∧ (Lit.int .i64 y.2).wf = true := by
      intro i hin
      obtain ⟨cs', hc', ht'⟩ := hel i (by omega)
      rw [hC] at hc'
      obtain ⟨_, hcl, hat⟩ := World.cells?_some hc'
      obtain ⟨y0, y1, q', _, _, h0, h1⟩ := trod_struct2 he ht'
      obtain ⟨o0, c0⟩ := hone_of hone 0 f0 rfl
      obtain ⟨o1, c1⟩ := hone_of hone 1 f1 rfl
      match cs', hcl with
      | [v0, v1], _ =>
        rw [o0, c0, t0] at h0
        rw [o1, c1, t1] at h1
        obtain ⟨z0, e0, _, w0⟩ := DataW.trod_int hi h0
        obtain ⟨z1, e1, _, w1⟩ := DataW.trod_int hi h1
        simp at e0 e1
        subst e0 e1
        have hat' : ∀ j, j < 2 → W.cell? (a.add (i * 2 + j)) = ([.int .i64 z0, .int .i64 z1] : List Value)[j]? := fun j hj => by
          rw [← Go.Deep.add_add]; exact hat j hj
        exact ⟨(z0, z1), hat' 0 (by omega), hat' 1 (by omega), w0, w1⟩
    obtain ⟨F, hF⟩ := choose_lt each
    refine ⟨(List.range n).map F, by omega, ⟨by simp, fun hn => ?_⟩, fun y hy => ?_⟩
    · have h0 := (hF 0 (by omega)).1
      obtain ⟨b, off, spot⟩ := a
      have hspot : spot = none := by simpa [Addr.add] using World.cell?_spot h0
      subst hspot
      have hadd : ∀ j, (⟨b, off, none⟩ : Addr).add j = ⟨b, off + j, none⟩ := fun j => by unfold Addr.add; split <;> simp_all
      refine ⟨b, off, rfl, ?_, fun j y hj => ?_⟩
      · have := World.block_lt_of_cell? W _ h0
        rw [hadd] at this
        exact this
      · have hjn : j < n := by
          have := (List.getElem?_eq_some_iff.1 hj).1
          simpa using this
        have hy : y = F j := by simp [hjn] at hj; exact hj.symm
        subst hy
        obtain ⟨g0, g1, _⟩ := hF j hjn
        rw [hadd] at g0
        rw [hadd] at g1
        exact ⟨by rw [← g0]; first | (congr 2; done) | (congr 2; omega), by rw [← g1]; first | (congr 2; done) | (congr 2; omega)⟩
    · simp only [List.mem_map, List.mem_range] at hy
      obtain ⟨j, hj, rfl⟩ := hy
      exact (hF j hj).2.2
end
end Go.Proofs.Ytkkipkmjhakknaa
