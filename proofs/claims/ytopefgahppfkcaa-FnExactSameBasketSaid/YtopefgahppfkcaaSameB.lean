/- SameBasket: contracts and law. -/
import Derived.Test.YtopefgahppfkcaaBask
import Derived.Laws.StructEq
namespace Go.Proofs.Ytopefgahppfkcaa
open Go.RowKit
set_option linter.unusedVariables false
set_option linter.unusedSimpArgs false

theorem neqL (x y : R2) (w : World) : (Go.binOp BinOp.neq 34 (Value.agg #[.string x.1, .int .i64 x.2]) (Value.agg #[.string y.1, .int .i64 y.2])).run Try.prog w = .ok (.bool (!eqR x y)) w := by
  have u3 := Try.underlying2
  have a3 := Try.isAgg2
  have z3 := Try.sizeOf2
  have u4 := Try.underlying9
  have a4 := Try.isAgg9
  have z4 := Try.sizeOf9
  have hS : Try.prog.underlying 34 = some (.struct (Try.prog.fieldsOf 34)) := by kernel_rfl
  have hp : Try.prog.stoodInHeld 34 = false := by kernel_rfl
  simp only [Go.binOp, Op.equal, Op.maxDepth]
  rw [show (10000 : Nat) = 9999 + 1 from rfl]
  simp only [Sem.run_bind]
  rw [run_equalIn_agg w 9999 34 _ _ hS hp]
  simp only [Program.fieldsOf, Try.underlying34]
  go_simp
  by_cases h1 : x.1 = y.1
  · have e1 := eqS' h1
    by_cases h2 : x.2 = y.2 <;> simp [h1, h2, e1, eqR]
  · have e1 := neS' h1
    have e2 : ¬ x.1.toList = y.1.toList := fun e => h1 (toList_inj e)
    by_cases h2 : x.2 = y.2 <;> simp [h1, h2, e1, e2, eqR]
theorem slicesEqualL_any (A B : Option Addr) (n p c d : Nat) (cs ds : List R2) (w : World) (h : Recs w A n cs) (g : Recs w B p ds) (hn : n ≤ 1048576) (hp : p ≤ 1048576) : Calls Try.prog 11 #[.slice A n c, .slice B p d] w fun e w' =>
    e = .returned (.bool (decide (cs = ds))) ∧ ∃ q, w' = w.drewN q := by
  have hgt : Try.prog.eqGuardType Try.prog.depth 34 = false := by kernel_rfl
  by_cases hnm : n = p
  case neg =>
    have hne : ((n : Int) != (p : Int)) = true := by rw [bne_iff_ne]; omega
    have hv : decide (cs = ds) = false := by rw [decide_eq_false_iff_not]; intro e; exact hnm (by rw [← h.1, ← g.1, e])
    rw [hv]
    clear hv hnm
    go_enter Try.func11, Try.ntmps11
    go_wp2
    go_ret
    exact ⟨rfl, 0, rfl⟩
  subst hnm
  have hne : ((n : Int) != (n : Int)) = false := by simp
  go_enter Try.func11, Try.ntmps11
  go_wp2
  go_loopw [13] (fun i wr => ∃ k : Nat, k ≤ n ∧ i = .int .i64 k ∧ EqTillR cs ds k ∧ ∃ q, wr = w.drewN q) (fun i _ => n - (intOf i).toNat)
  case atStart => exact ⟨0, Nat.zero_le _, rfl, fun _ hj => absurd hj (by omega), 0, rfl⟩
  case round =>
    obtain ⟨k, hk, rfl, he, nw, rfl⟩ := hrel
    by_cases hlt : k < n
    · obtain ⟨b, off, x, rfl, hblt, hx, hc0, hc1⟩ := h.at_ hlt
      obtain ⟨b2, off2, y, rfl, hblt2, hy, hd0, hd1⟩ := g.at_ hlt
      have Hx := Lib.hid hx
      have Hy := Lib.hid hy
      clear hx hy
      have k0 : (0 : Int) ≤ (k : Int) := by omega
      have k1 : (k : Int) < (n : Int) := by omega
      have hq := neqL x y
      cases hxy : eqR x y
      · rw [hxy] at hq
        go_wp2
        go_quiet (fail)
        go_wp2
        go_ret
        exact ⟨ret_bool (by symm; rw [decide_eq_false_iff_not]; exact neR_of_at Hx.out Hy.out (fun e => by rw [(eqR_iff x y).2 e] at hxy; cases hxy)), (by first | exact ⟨_, rfl⟩ | exact drew2 _ _ _ | exact ⟨0, rfl⟩)⟩
      · rw [hxy] at hq
        go_wp2
        go_quiet (fail)
        go_wp2
        go_roundw
        case rel => exact ⟨k + 1, by omega, by go_num, eqTillR_succ he Hx.out Hy.out ((eqR_iff x y).1 hxy), (by first | exact ⟨_, rfl⟩ | exact drew2 _ _ _ | exact ⟨0, rfl⟩)⟩
        case measure => simp [intOf]; omega
    · obtain rfl : k = n := by omega
      go_wp2
      go_ret
      exact ⟨ret_bool (by symm; rw [decide_eq_true_iff]; exact eqR_of_till h.1 g.1 he), (by first | exact ⟨_, rfl⟩ | exact drew2 _ _ _ | exact ⟨0, rfl⟩)⟩
def sameBB (st : Int) (cs : List R2) (b : ByteArray) (st2 : Int) (ds : List R2) (b2 : ByteArray) : Bool := decide (st = st2) && decide (cs = ds) && decide (b = b2)
def SameBPost (v : Bool) (w : World) (e : Ending) (w' : World) : Prop := e = .returned (.bool v) ∧ Below w.heap.size w w'
theorem slicesEqualL_eq (A B : Option Addr) (n p c d : Nat) (cs ds : List R2) (v : Bool) (w : World) (h : Recs w A n cs) (g : Recs w B p ds) (hn : n ≤ 1048576) (hp : p ≤ 1048576) (hv : decide (cs = ds) = v) : Calls Try.prog 11 #[.slice A n c, .slice B p d] w fun e w' =>
    e = .returned (.bool v) ∧ ∃ q, w' = w.drewN q := by
  subst hv; exact slicesEqualL_any A B n p c d cs ds w h g hn hp
theorem implSameBasket_any (st st2 : Int) (A B : Option Addr) (n p c d : Nat) (b b2 : ByteArray) (cs ds : List R2) (w : World) (h : Recs w A n cs) (g : Recs w B p ds) (hn : n ≤ 1048576) (hp : p ≤ 1048576) : Calls Try.prog 7 #[bval st A n c b, bval st2 B p d b2] w (SameBPost (sameBB st cs b st2 ds b2) w) := by
  cases h1 : decide (st = st2)
  · have t1 : (st == st2) = false := by simpa using h1
    have hv : sameBB st cs b st2 ds b2 = false := by simp [sameBB, h1]
    rw [hv]
    clear hv h1
    go_enter Try.func7, Try.ntmps7
    go_wp2_with fail
    go_ret
    exact ⟨rfl, by go_grown⟩
  have t1 : (st == st2) = true := by simpa using h1
  cases h2 : decide (cs = ds)
  · have hv : sameBB st cs b st2 ds b2 = false := by simp [sameBB, h2]
    rw [hv]
    clear hv h1
    go_enter Try.func7, Try.ntmps7
    go_wp2_with fail
    refine (slicesEqualL_eq A B n p c d cs ds false _ (h.keep (by go_grown)) (g.keep (by go_grown)) hn hp h2).mono ?_
    rintro e w1 ⟨rfl, q, rfl⟩
    go_wp2_with fail
    go_ret
    exact ⟨rfl, below_drewN (by go_grown) _⟩
  cases h3 : decide (b = b2)
  · have t3 : (b.toList == b2.toList) = false := neS' (by simpa using h3)
    have hv : sameBB st cs b st2 ds b2 = false := by simp [sameBB, h3]
    rw [hv]
    clear hv h1 h3
    go_enter Try.func7, Try.ntmps7
    go_wp2_with fail
    refine (slicesEqualL_eq A B n p c d cs ds true _ (h.keep (by go_grown)) (g.keep (by go_grown)) hn hp h2).mono ?_
    rintro e w1 ⟨rfl, q, rfl⟩
    go_wp2_with fail
    go_ret
    exact ⟨rfl, below_drewN (by go_grown) _⟩
  · have t3 : (b.toList == b2.toList) = true := eqS' (by simpa using h3)
    have hv : sameBB st cs b st2 ds b2 = true := by simp [sameBB, h1, h2, h3]
    rw [hv]
    clear hv h1 h3
    go_enter Try.func7, Try.ntmps7
    go_wp2_with fail
    refine (slicesEqualL_eq A B n p c d cs ds true _ (h.keep (by go_grown)) (g.keep (by go_grown)) hn hp h2).mono ?_
    rintro e w1 ⟨rfl, q, rfl⟩
    go_wp2_with fail
    go_ret
    exact ⟨rfl, below_drewN (by go_grown) _⟩
theorem specSameBasket_any (st st2 : Int) (A B : Option Addr) (n p c d : Nat) (b b2 : ByteArray) (cs ds : List R2) (w : World) (h : Recs w A n cs) (g : Recs w B p ds) (hn : n ≤ 1048576) (hp : p ≤ 1048576) : Calls Try.prog 5 #[bval st A n c b, bval st2 B p d b2] w (SameBPost (sameBB st cs b st2 ds b2) w) := by
  have hgt : Try.prog.eqGuardType Try.prog.depth 34 = false := by kernel_rfl
  cases h1 : decide (st = st2)
  · have t1 : (st != st2) = true := by simpa using h1
    have hv : sameBB st cs b st2 ds b2 = false := by simp [sameBB, h1]
    rw [hv]
    clear hv h1
    go_enter Try.func5, Try.ntmps5
    go_wp2_with fail
    go_ret
    exact ⟨rfl, by go_grown⟩
  have t1 : (st != st2) = false := by simpa using h1
  cases h3 : decide (b = b2)
  · have t3 : (b.toList == b2.toList) = false := neS' (by simpa using h3)
    have hv : sameBB st cs b st2 ds b2 = false := by simp [sameBB, h3]
    rw [hv]
    clear hv h1 h3
    go_enter Try.func5, Try.ntmps5
    go_wp2_with fail
    go_ret
    exact ⟨rfl, by go_grown⟩
  have t3 : (b.toList == b2.toList) = true := eqS' (by simpa using h3)
  by_cases hnm : n = p
  case neg =>
    have hne : ((n : Int) != (p : Int)) = true := by rw [bne_iff_ne]; omega
    have hcd : decide (cs = ds) = false := by rw [decide_eq_false_iff_not]; intro e; exact hnm (by rw [← h.1, ← g.1, e])
    have hv : sameBB st cs b st2 ds b2 = false := by simp [sameBB, hcd]
    rw [hv]
    clear hv h1 h3 hcd hnm
    go_enter Try.func5, Try.ntmps5
    go_wp2_with fail
    go_ret
    exact ⟨rfl, by go_grown⟩
  subst hnm
  have hne : ((n : Int) != (n : Int)) = false := by simp
  have hv : sameBB st cs b st2 ds b2 = decide (cs = ds) := by simp [sameBB, h1, h3]
  rw [hv]
  clear hv h1 h3
  go_enter Try.func5, Try.ntmps5
  go_wp2_with fail
  obtain ⟨W, hW, ⟨_, c1, _⟩, ⟨_, c2, _⟩, hB⟩ := boxes2 w (.int .i64 st) (.slice A n c) (.string b) (.int .i64 st2) (.slice B n d) (.string b2) 29
  have h' := h.keep hB
  have g' := g.keep hB
  rw [hW]
  clear hW
  go_loopw [5] (fun i wr => ∃ k : Nat, k ≤ n ∧ i = .int .i64 k ∧ EqTillR cs ds k ∧ ∃ q, wr = W.drewN q) (fun i _ => n - (intOf i).toNat)
  case atStart => exact ⟨0, Nat.zero_le _, rfl, fun _ hj => absurd hj (by omega), 0, rfl⟩
  case round =>
    obtain ⟨k, hk, rfl, he, nw, rfl⟩ := hrel
    by_cases hlt : k < n
    · obtain ⟨b, off, x, rfl, hblt, hx, hc0, hc1⟩ := h'.at_ hlt
      obtain ⟨b2, off2, y, rfl, hblt2, hy, hd0, hd1⟩ := g'.at_ hlt
      have Hx := Lib.hid hx
      have Hy := Lib.hid hy
      clear hx hy
      have k0 : (0 : Int) ≤ (k : Int) := by omega
      have k1 : (k : Int) < (n : Int) := by omega
      have hq := neqL x y
      cases hxy : eqR x y
      · rw [hxy] at hq
        go_wp2
        go_quiet (fail)
        go_wp2
        go_ret
        exact ⟨ret_bool (by symm; rw [decide_eq_false_iff_not]; exact neR_of_at Hx.out Hy.out (fun e => by rw [(eqR_iff x y).2 e] at hxy; cases hxy)), below_drewN (below_drewN hB _) _⟩
      · rw [hxy] at hq
        go_wp2
        go_quiet (fail)
        go_wp2
        go_roundw
        case rel => exact ⟨k + 1, by omega, by go_num, eqTillR_succ he Hx.out Hy.out ((eqR_iff x y).1 hxy), (by first | exact ⟨_, rfl⟩ | exact drew2 _ _ _ | exact ⟨0, rfl⟩)⟩
        case measure => simp [intOf]; omega
    · obtain rfl : k = n := by omega
      go_wp2
      go_ret
      exact ⟨ret_bool (by symm; rw [decide_eq_true_iff]; exact eqR_of_till h.1 g.1 he), below_drewN hB _⟩
set_option maxHeartbeats 4000000 in
theorem law_FnExactSameBasket (w : World) (c0 c1 c2 : Value) (S : Bas) (h0 : IsBasket w c0 c1 c2 S) (d0 d1 d2 : Value) (T : Bas) (g0 : IsBasket w d0 d1 d2 T) : Calls Try.prog 3 #[.agg #[c0, c1, c2], .agg #[d0, d1, d2]] w fun e w' => e = .returned (.bool true) ∧ Below w.heap.size w w' := by
  obtain ⟨st, A, n, c, cs, b⟩ := S
  obtain ⟨st2, B, p, d, ds, b2⟩ := T
  obtain ⟨rfl, rfl, rfl, ⟨hn, h, hs⟩, hb, _⟩ := h0
  obtain ⟨rfl, rfl, rfl, ⟨hp, g, gs⟩, gb, _⟩ := g0
  simp only at hn h hs hb hp g gs gb ⊢
  have HS := Box0.mk (fun x hx => (hs x hx).1)
  have GS := Box0.mk (fun x hx => (gs x hx).1)
  clear hs gs
  go_enter Try.func3, Try.ntmps3
  go_wp2_with fail
  obtain ⟨W, hW, hX, hY, hB⟩ := boxes2 w (.int .i64 st) (.slice A n c) (.string b) (.int .i64 st2) (.slice B p d) (.string b2) 24
  have h' := h.keep hB
  have g' := g.keep hB
  rw [hW]
  clear hW h g
  refine (szBasket_any st A n c b cs 1048576 _ h' HS.out hn hb (by omega) (by omega)).mono ?_
  rintro e w1 ⟨v, rfl, hb1, v1, v2⟩
  have hV := Box0.mk v2
  clear v2
  replace hB := belowT hb1 hB
  by_cases v0 : v < 0
  · go_wp2_with fail
    go_ret
    exact ⟨rfl, hB⟩
  have hn2 : n ≤ 1048576 := hV.out (by omega)
  replace hX := hX.keep hb1
  replace hY := hY.keep hb1
  replace h' := h'.keep hb1
  replace g' := g'.keep hb1
  clear hb1
  obtain ⟨y0, y1, y2⟩ := id hY
  go_wp2_with fail
  clear y0 y1 y2
  refine (szBasket_any st2 B p d b2 ds v _ g' GS.out hp gb (by omega) (by omega)).mono ?_
  rintro e w2 ⟨u, rfl, hb1, u1, u2⟩
  have hU := Box0.mk u2
  clear u2
  replace hB := belowT hb1 hB
  by_cases u0 : u < 0
  · go_wp2_with fail
    go_ret
    exact ⟨rfl, hB⟩
  have hp2 : p ≤ 1048576 := hU.out (by omega)
  replace hX := hX.keep hb1
  replace hY := hY.keep hb1
  replace h' := h'.keep hb1
  replace g' := g'.keep hb1
  clear hb1
  obtain ⟨x0, x1, x2⟩ := hX
  obtain ⟨y0, y1, y2⟩ := hY
  go_wp2_with fail
  have hR := Box0.mk h'
  have gR := Box0.mk g'
  clear h' g'
  go_region_held3 (fun w' => w'.cell? ⟨w.heap.size, 0, none⟩ = some (.int .i64 st) ∧ w'.cell? ⟨w.heap.size, 1, none⟩ = some (.slice A n c) ∧ w'.cell? ⟨w.heap.size, 2, none⟩ = some (.string b) ∧ w'.cell? ⟨w.heap.size + 1, 0, none⟩ = some (.int .i64 st2) ∧ w'.cell? ⟨w.heap.size + 1, 1, none⟩ = some (.slice B p d) ∧ w'.cell? ⟨w.heap.size + 1, 2, none⟩ = some (.string b2) ∧ Box0 (Recs w' A n cs) ∧ Box0 (Recs w' B p ds) ∧ Below w.heap.size w w')
    (((try go_split_ands); (try dsimp only); (repeat' apply And.intro)) <;> first | assumption | exact keepd (by assumption) | exact Below.drew (by assumption) | exact keepc hb2 (by assumption) | exact belowT hb2 (by assumption) | exact Box0.mk (Recs.drew (Box0.out (by assumption))) | exact Box0.mk (Recs.keep (Box0.out (by assumption)) hb2))
    ((first
      | (go_at_call 6; refine (toBasket_any _ _ _ _ _ _ _ (by go_split_ands; exact Box0.out (by assumption)) (by assumption)).mono ?_; rintro e w' ⟨X, rfl, hX1, hX2, hO, hb2⟩)
      | (go_at_call 5; refine (specSameBasket_any _ _ _ _ _ _ _ _ _ _ _ _ _ (by first | exact OwnR.recs (by assumption) | exact Recs.keep (OwnR.recs (by assumption)) (by assumption)) (by first | exact OwnR.recs (by assumption) | exact Recs.keep (OwnR.recs (by assumption)) (by assumption)) hn2 hp2).mono ?_; rintro e w' ⟨rfl, hb2⟩)))
  rename_i hHeld
  obtain ⟨x0, x1, x2, y0, y1, y2, hR, gR, hB⟩ := hHeld
  generalize hv : sameBB st cs b st2 ds b2 = v
  go_wp2_with fail
  refine (toBasket_any _ _ _ _ _ _ _ hR.out hn2).mono ?_
  rintro e w3 ⟨X1, rfl, hX1, hX2, hO1, hb3⟩
  replace x0 := keepc hb3 x0
  replace x1 := keepc hb3 x1
  replace x2 := keepc hb3 x2
  replace y0 := keepc hb3 y0
  replace y1 := keepc hb3 y1
  replace y2 := keepc hb3 y2
  replace hR := Box0.mk (hR.out.keep hb3)
  replace gR := Box0.mk (gR.out.keep hb3)
  replace hB := belowT hb3 hB
  have hlt : w.heap.size + 1 < w3.heap.size := World.block_lt_of_cell? _ _ y0
  go_wp2_with fail
  have hB3 : Below w3.heap.size w3 (w3.alloc (.cells #[.int .i64 st, .slice (some ⟨X1, 0, none⟩) n n, .string b] 29)) := by go_grown
  have hE := C3.new w3 (.int .i64 st) (.slice (some ⟨X1, 0, none⟩) n n) (.string b) 29
  refine (toBasket_any _ _ _ _ _ _ _ (gR.out.keep hB3) hp2).mono ?_
  rintro e w4 ⟨X2, rfl, hX3, hX4, hO2, hb4⟩
  have hb34 : Below w3.heap.size w3 w4 := belowT hb4 hB3
  have hRO := Box0.mk (hO1.recs.keep hb34)
  replace hE := hE.keep hb4
  have hgO := Box0.mk hO2.recs
  replace x0 := keepc hb34 x0
  replace x1 := keepc hb34 x1
  replace x2 := keepc hb34 x2
  replace y0 := keepc hb34 y0
  replace y1 := keepc hb34 y1
  replace y2 := keepc hb34 y2
  replace hR := Box0.mk (hR.out.keep hb34)
  replace gR := Box0.mk (gR.out.keep hb34)
  replace hB := belowT hb34 hB
  obtain ⟨e0, e1, e2⟩ := id hE
  have hlt4 : w3.heap.size < w4.heap.size := hE.lt
  clear hb34 hB3 hO1 hO2 hX1 hX2 hX3 hX4
  go_wp2_with fail
  have hF := C3.new w4 (.int .i64 st2) (.slice (some ⟨X2, 0, none⟩) p p) (.string b2) 29
  have hB4 : Below w4.heap.size w4 (w4.alloc (.cells #[.int .i64 st2, .slice (some ⟨X2, 0, none⟩) p p, .string b2] 29)) := by go_grown
  replace hE := hE.keep hB4
  refine (implSameBasket_any _ _ _ _ _ _ _ _ _ _ _ _ _ (hRO.out.keep hB4) (hgO.out.keep hB4) hn2 hp2).mono ?_
  rw [hv]
  rintro e w5 ⟨rfl, hb5⟩
  have hb45 := belowT hb5 hB4
  have htv : (v != v) = false := by simp
  replace hE := hE.keep hb5
  replace hF := hF.keep hb5
  replace hRO := Box0.mk ((hRO.out.keep hB4).keep hb5)
  replace hgO := Box0.mk ((hgO.out.keep hB4).keep hb5)
  replace x0 := keepc hb45 x0
  replace x1 := keepc hb45 x1
  replace x2 := keepc hb45 x2
  replace y0 := keepc hb45 y0
  replace y1 := keepc hb45 y1
  replace y2 := keepc hb45 y2
  replace hR := Box0.mk (hR.out.keep hb45)
  replace gR := Box0.mk (gR.out.keep hb45)
  replace hB := belowT hb45 hB
  replace e0 := hE.c0
  replace e1 := hE.c1
  replace e2 := hE.c2
  obtain ⟨f0, f1, f2⟩ := id hF
  clear hE hF hb45 hb5 hB4 hb4 hb3 hlt hlt4
  generalize w3.heap.size = q3 at *
  generalize w4.heap.size = q4 at *
  go_wp2_with fail
  go_region_held3 (fun w' => w'.cell? ⟨w.heap.size, 0, none⟩ = some (.int .i64 st) ∧ w'.cell? ⟨w.heap.size, 1, none⟩ = some (.slice A n c) ∧ w'.cell? ⟨w.heap.size, 2, none⟩ = some (.string b) ∧ w'.cell? ⟨w.heap.size + 1, 0, none⟩ = some (.int .i64 st2) ∧ w'.cell? ⟨w.heap.size + 1, 1, none⟩ = some (.slice B p d) ∧ w'.cell? ⟨w.heap.size + 1, 2, none⟩ = some (.string b2)
      ∧ w'.cell? ⟨q3, 0, none⟩ = some (.int .i64 st) ∧ w'.cell? ⟨q3, 1, none⟩ = some (.slice (some ⟨X1, 0, none⟩) n n) ∧ w'.cell? ⟨q3, 2, none⟩ = some (.string b) ∧ w'.cell? ⟨q4, 0, none⟩ = some (.int .i64 st2) ∧ w'.cell? ⟨q4, 1, none⟩ = some (.slice (some ⟨X2, 0, none⟩) p p) ∧ w'.cell? ⟨q4, 2, none⟩ = some (.string b2)
      ∧ Box0 (Recs w' A n cs) ∧ Box0 (Recs w' B p ds) ∧ Box0 (Recs w' (some ⟨X1, 0, none⟩) n cs) ∧ Box0 (Recs w' (some ⟨X2, 0, none⟩) p ds) ∧ Below w.heap.size w w')
    (((try go_split_ands); (try dsimp only); (repeat' apply And.intro)) <;> first | assumption | exact keepd (by assumption) | exact Below.drew (by assumption) | exact keepc hb2 (by assumption) | exact belowT hb2 (by assumption) | exact Box0.mk (Recs.drew (Box0.out (by assumption))) | exact Box0.mk (Recs.keep (Box0.out (by assumption)) hb2))
    ((first
      | (go_at_call 6; refine (toBasket_any _ _ _ _ _ _ _ (by go_split_ands; exact Box0.out (by assumption)) (by assumption)).mono ?_; rintro e w' ⟨X, rfl, hX1, hX2, hO, hb2⟩)
      | (go_at_call 8; refine (eqBasket_same _ _ _ _ _ _ _ _ _ (by go_split_ands; exact Box0.out (by assumption)) (OwnR.recs (by assumption)) hn2).mono ?_; rintro e w' ⟨rfl, hb2⟩)))
  go_split_ands
  go_wp2_with fail
  go_region_held3 (fun w' => w'.cell? ⟨w.heap.size, 0, none⟩ = some (.int .i64 st) ∧ w'.cell? ⟨w.heap.size, 1, none⟩ = some (.slice A n c) ∧ w'.cell? ⟨w.heap.size, 2, none⟩ = some (.string b) ∧ w'.cell? ⟨w.heap.size + 1, 0, none⟩ = some (.int .i64 st2) ∧ w'.cell? ⟨w.heap.size + 1, 1, none⟩ = some (.slice B p d) ∧ w'.cell? ⟨w.heap.size + 1, 2, none⟩ = some (.string b2)
      ∧ w'.cell? ⟨q3, 0, none⟩ = some (.int .i64 st) ∧ w'.cell? ⟨q3, 1, none⟩ = some (.slice (some ⟨X1, 0, none⟩) n n) ∧ w'.cell? ⟨q3, 2, none⟩ = some (.string b) ∧ w'.cell? ⟨q4, 0, none⟩ = some (.int .i64 st2) ∧ w'.cell? ⟨q4, 1, none⟩ = some (.slice (some ⟨X2, 0, none⟩) p p) ∧ w'.cell? ⟨q4, 2, none⟩ = some (.string b2)
      ∧ Box0 (Recs w' A n cs) ∧ Box0 (Recs w' B p ds) ∧ Box0 (Recs w' (some ⟨X1, 0, none⟩) n cs) ∧ Box0 (Recs w' (some ⟨X2, 0, none⟩) p ds) ∧ Below w.heap.size w w')
    (((try go_split_ands); (try dsimp only); (repeat' apply And.intro)) <;> first | assumption | exact keepd (by assumption) | exact Below.drew (by assumption) | exact keepc hb2 (by assumption) | exact belowT hb2 (by assumption) | exact Box0.mk (Recs.drew (Box0.out (by assumption))) | exact Box0.mk (Recs.keep (Box0.out (by assumption)) hb2))
    ((first
      | (go_at_call 6; refine (toBasket_any _ _ _ _ _ _ _ (by go_split_ands; exact Box0.out (by assumption)) (by assumption)).mono ?_; rintro e w' ⟨X, rfl, hX1, hX2, hO, hb2⟩)
      | (go_at_call 8; refine (eqBasket_same _ _ _ _ _ _ _ _ _ (by go_split_ands; exact Box0.out (by assumption)) (OwnR.recs (by assumption)) hp2).mono ?_; rintro e w' ⟨rfl, hb2⟩)))
  go_split_ands
  go_wp2_with fail
  go_ret
  exact ⟨rfl, by assumption⟩
end Go.Proofs.Ytopefgahppfkcaa
