/- PackLevel of the reference: the walk of its search. -/
import Derived.Test.YtkkipkmjhakknaaPackS
import Derived.Test.YtkkipkmjhakknaaSrc2
import Derived.Deep.AppendLies
namespace Go.Proofs.Ytkkipkmjhakknaa
open Go.RowKit
set_option linter.unusedVariables false
set_option linter.unusedSimpArgs false

/-- What the search hands back. -/
def WkPost (base p : Nat) (W P : Value) (h : Int) (st : List Int × Int) (w : World) (e : Ending) (w' : World) : Prop :=
  e = .returned (.tuple #[]) ∧ (∃ BA bn bc, OwnI w' base (.slice BA bn bc) bn st.1 ∧ blk BA ≠ some p ∧ WkB w' p W P h (.slice BA bn bc) st.2) ∧ w.grownBy w' (some p)
/-- A copy of a slice of integers, seen from an elder world. -/
theorem l00Own_at (B0 : Nat) (W0 : World) (A : Option Addr) (n c : Nat) (zs : List Int) (w : World) (h : Ints w A n zs) (hn : n ≤ 1048576) (hB : Below B0 W0 w) (hz : B0 ≤ w.heap.size) : Calls Try.prog 58 #[.slice A n c] w fun e w' =>
    ∃ C p, e = .returned (.slice C n p) ∧ OwnI w' B0 (.slice C n p) n zs ∧ Below B0 W0 w' ∧ B0 ≤ w'.heap.size := by
  refine (l00Own_any A n c zs w h hn).mono ?_
  rintro e w' ⟨C, p, rfl, hO, hb⟩
  refine ⟨C, p, rfl, ⟨hO.1, ?_⟩, hB.trans (hb.mono hz), Nat.le_trans hz hb.size⟩
  rcases hO.2 with h2 | ⟨g, cap, cur, hv, hg, h3⟩
  · exact .inl h2
  · exact .inr ⟨g, cap, cur, hv, Nat.le_trans hz hg, h3⟩
/-- The same behind a literal of one cell. -/
theorem l00Own_at2 (A : Option Addr) (n c : Nat) (zs : List Int) (w : World) (v : Value) (t : TypeId) (h : Ints w A n zs) (hn : n ≤ 1048576) : Calls Try.prog 58 #[.slice A n c] (w.alloc (.cells #[v] t)).drew fun e w' =>
    ∃ C p, e = .returned (.slice C n p) ∧ OwnI w' (w.heap.size + 1) (.slice C n p) n zs ∧ Below w.heap.size w w' ∧ w.heap.size ≤ w'.heap.size ∧ w.heap.size + 1 ≤ w'.heap.size ∧ (∀ j u, [v][j]? = some u → w'.cell? ((⟨w.heap.size, 0, none⟩ : Addr).add j) = some u) := by
  have hs : (w.alloc (.cells #[v] t)).drew.heap.size = w.heap.size + 1 := by exact World.size_alloc _ _
  have hb0 : Below w.heap.size w (w.alloc (.cells #[v] t)).drew := Below.drew ((Below.refl _ _).alloc (Nat.le_refl _) _)
  refine (l00Own_any A n c zs _ (h.keep hb0) hn).mono ?_
  rintro e w' ⟨C, p, rfl, hO, hb⟩
  have hz := hb.size
  rw [hs] at hb hz hO
  refine ⟨C, p, rfl, hO, hb0.trans (hb.mono (by omega)), by omega, hz, fun j u hj => ?_⟩
  have h1 := cell_one_new w v t j u hj
  refine (hb.cell ?_).trans h1
  have hb2 : ((⟨w.heap.size, 0, none⟩ : Addr).add j).block = w.heap.size := by unfold Addr.add; split <;> simp_all
  rw [hb2]
  exact Nat.lt_succ_self _
theorem below_grown {w w' : World} (h : Below w.heap.size w w') (row : Option Nat) : w.grownBy w' row := ⟨h.os, h.tape, h.output, h.size, fun i hi _ => h.block i hi⟩
theorem l00Has_q (A : Option Addr) (n c : Nat) (gs : List Int) (z : Int) (v : Bool) (w : World) (h : Ints w A n gs) (hn : n ≤ 1048576) (hv : hasI gs z = v) : Calls Try.prog 81 #[.slice A n c, .int .i64 z] w fun e w' => e = .returned (.bool v) ∧ w = w' := l00Has_eq _ _ _ _ _ _ _ h hn hv
theorem own_snoc {w : World} {B0 base q g cap : Nat} {us : List Int} {z : Int} (h : w.ownsRow B0 2 1 (.slice (some ⟨g, 0, none⟩) (q + 1) cap) (q + 1) (us.map (Value.int .i64) ++ [.int .i64 z])) (hb : base ≤ B0) : OwnI w base (.slice (some ⟨g, 0, none⟩) (q + 1) cap) (q + 1) (us ++ [z]) := by
  have e : us.map (Value.int .i64) ++ [.int .i64 z] = (us ++ [z]).map (Value.int .i64) := by simp
  rw [e] at h
  refine ⟨h.1, ?_⟩
  rcases h.2 with h2 | ⟨g, cap, cur, hv, hg, h3⟩
  · exact .inl h2
  · exact .inr ⟨g, cap, cur, hv, Nat.le_trans hb hg, h3⟩
theorem own_far {w : World} {B0 q g cap p : Nat} {xs : List Value} (h : w.ownsRow B0 2 1 (.slice (some ⟨g, 0, none⟩) (q + 1) cap) (q + 1) xs) (hp : p < B0) : blk (some (⟨g, 0, none⟩ : Addr)) ≠ some p := fun e => by
  have := (World.ownsRow.lt h g rfl).1
  simp [blk] at e
  omega
set_option maxRecDepth 100000 in
set_option maxHeartbeats 4000000 in
theorem walk_any (ws ps : List Int) (h : Int) (p base : Nat) (WA PA : Option Addr) (wn wc pn pc : Nat) (hws : ∀ x ∈ ws, 0 ≤ x ∧ x ≤ 10000) (hps : ∀ x ∈ ps, 0 ≤ x ∧ x ≤ 1000) (h0 : 0 ≤ h) (h1 : h ≤ 1000) (hw6 : ws.length ≤ 6) (hp6 : ps.length ≤ 6) (hbp : base ≤ p) (hWb : 0 < wn → ∀ g, blk WA = some g → g < base) (hPb : 0 < pn → ∀ g, blk PA = some g → g < base) :
    ∀ (d : Nat) (us : List Int) (mm : Int) (w : World) (st : List Int × Int) (U BA : Option Addr) (q uc bn bc : Nat), us.length + d = ws.length → Ints w WA wn ws → Ints w PA pn ps → OwnI w base (.slice U q uc) q us → blk U ≠ some p → OwnI w base (.slice BA bn bc) bn st.1 → blk BA ≠ some p → WkB w p (.slice WA wn wc) (.slice PA pn pc) h (.slice BA bn bc) st.2 → -(10000000 * us.length) ≤ mm → mm ≤ 10000000 * us.length →
    Calls Try.prog 77 #[.pointer (some ⟨p, 0, none⟩), .slice U q uc, .int .i64 mm] w (WkPost base p (.slice WA wn wc) (.slice PA pn pc) h (packF ws ps h d us mm st) w) := by
  intro d
  induction d with
  | zero =>
    intro us mm w st U BA q uc bn bc hd hW hP hU hUp hB hBp hk m0 m1
    have hq : q = wn := by have := OwnI.len hU; have := hW.1; omega
    subst hq
    have hq6 : us.length ≤ 6 := by omega
    have e1 := hk.c0
    have e2 := hk.c1
    have e3 := hk.c2
    have e4 := hk.c3
    have e5 := hk.c4
    have z3 := hk.z3
    have z4 := hk.z4
    obtain ⟨v, hv⟩ : ∃ v, absI mm = v := ⟨_, rfl⟩
    obtain ⟨l, hl⟩ : ∃ l, st.2 = l := ⟨_, rfl⟩
    rw [hl] at e5
    by_cases hc : l < 0 ∨ v < l
    · have hpk : packF ws ps h 0 us mm st = (us, v) := by unfold packF leafP; rw [hl, hv, if_pos hc]
      rw [hpk]
      have hks := hk.set (B' := .slice U q uc) (l' := v)
      have hgr := World.grownBy.trans' (grown_setCell w p 3 (.slice U q uc)) (grown_setCell (w.setCell ⟨p, 3, none⟩ (.slice U q uc)) p 4 (.int .i64 v))
      have hU2 := OwnI.grown hU hgr (fun g e => by injection e with e; subst e; exact hUp)
      rcases hc with hc | hc
      · go_enter Try.func77, Try.ntmps77
        go_wp2_with (go_at_call 74; refine (l00SizeA_eq _ _ _ (by omega) (by omega) hv).mono ?_; rintro e w' ⟨rfl, rfl⟩)
        go_end0
        exact ⟨rfl, ⟨_, _, _, hU2, hUp, hks⟩, hgr⟩
      · by_cases hl0 : l < 0
        · go_enter Try.func77, Try.ntmps77
          go_wp2_with (go_at_call 74; refine (l00SizeA_eq _ _ _ (by omega) (by omega) hv).mono ?_; rintro e w' ⟨rfl, rfl⟩)
          go_end0
          exact ⟨rfl, ⟨_, _, _, hU2, hUp, hks⟩, hgr⟩
        · go_enter Try.func77, Try.ntmps77
          go_wp2_with (go_at_call 74; refine (l00SizeA_eq _ _ _ (by omega) (by omega) hv).mono ?_; rintro e w' ⟨rfl, rfl⟩)
          go_end0
          exact ⟨rfl, ⟨_, _, _, hU2, hUp, hks⟩, hgr⟩
    · have hpk : packF ws ps h 0 us mm st = st := by unfold packF leafP; rw [hl, hv, if_neg hc]
      rw [hpk]
      have c1 : ¬ l < 0 := by omega
      have c2 : ¬ v < l := by omega
      clear hc
      go_enter Try.func77, Try.ntmps77
      go_wp2_with (go_at_call 74; refine (l00SizeA_eq _ _ _ (by omega) (by omega) hv).mono ?_; rintro e w' ⟨rfl, rfl⟩)
      go_end0
      exact ⟨rfl, ⟨_, _, _, hB, hBp, hk⟩, World.grownBy.refl _ _⟩
  | succ d ih =>
    intro us mm w st U BA q uc bn bc hd hW hP hU hUp hB hBp hk m0 m1
    obtain ⟨i0, hi0, hz0, hz1, hz2⟩ := info_parts info_i64
    have hql := OwnI.len hU
    have hwl := hW.1
    have hpl := hP.1
    have hqw : q < wn := by omega
    have hq6 : q < 6 := by omega
    have tq : ((q : Int) == (wn : Int)) = false := by rw [beq_eq_false_iff_ne]; omega
    obtain ⟨b, off, x, rfl, hblt, hx, hcx⟩ := hW.at_ hqw
    have hxg : ws.getD us.length 0 = x := by rw [hql, List.getD_eq_getElem?_getD, hx]; rfl
    obtain ⟨x0, x1⟩ := hws x (List.mem_of_getElem? hx)
    have e1 := hk.c0
    have e2 := hk.c1
    have hlt := hk.lt
    have q1 : (q : Int) < (wn : Int) := by omega
    have q0 : (0 : Int) ≤ (q : Int) := by omega
    have hpf := Lib.hid (packF_succ ws ps h d us mm st)
    go_enter Try.func77, Try.ntmps77
    go_wp2
    go_loopw [8] (fun i wr => ∃ k : Nat, k ≤ pn ∧ i = .int .i64 k ∧ (∃ BA bn bc, OwnI wr base (.slice BA bn bc) bn (packK ws ps h d us mm st k).1 ∧ blk BA ≠ some p ∧ WkB wr p (.slice (some ⟨b, off, none⟩) wn wc) (.slice PA pn pc) h (.slice BA bn bc) (packK ws ps h d us mm st k).2) ∧ w.grownBy wr (some p)) (fun i _ => pn - (intOf i).toNat)
    case atStart => exact ⟨0, Nat.zero_le _, rfl, ⟨_, _, _, hB, hBp, hk⟩, World.grownBy.refl _ _⟩
    case round =>
      clear e1 e2 hB hBp hk
      obtain ⟨k, hkp, rfl, ⟨BA, bn, bc, hB, hBp, hk⟩, hg⟩ := hrel
      have e1 := hk.c0
      have e2 := hk.c1
      have e3 := hk.c2
      have hlt := hk.lt
      have hU2 := OwnI.grown hU hg (fun g e => by injection e with e; subst e; exact hUp)
      have hW2 := Ints.grown hW hg (fun g e => by injection e with e; subst e; intro e; have := hWb (by omega) _ e; omega)
      have hP2 : Ints wr PA pn ps := by
        rcases Nat.eq_zero_or_pos pn with e0 | e0
        · subst e0; exact ⟨hP.1, fun h => absurd h (by omega)⟩
        · exact Ints.grown hP hg (fun g e => by injection e with e; subst e; intro e; have := hPb e0 _ e; omega)
      have hzu := OwnI.ints hU2
      by_cases hkn : k < pn
      · have k1 : (k : Int) < (pn : Int) := by omega
        have k0 : (0 : Int) ≤ (k : Int) := by omega
        have hsucc := packK_succ ws ps h d us mm st k
        cases hh : hasI us k
        · rw [hh, if_neg (by simp)] at hsucc
          have Hs := Lib.hid hsucc
          clear hsucc
          obtain ⟨b2, off2, y, rfl, hblt2, hy, hcy⟩ := hP2.at_ hkn
          have hyg : ps.getD k 0 = y := by rw [List.getD_eq_getElem?_getD, hy]; rfl
          obtain ⟨y0, y1⟩ := hps y (List.mem_of_getElem? hy)
          have mb1 := mulb (x := x) (y := y) (A := 10000) (B := 1000) (by omega) (by omega) (by omega) (by omega)
          have mb2 := mulb (x := x) (y := h) (A := 10000) (B := 1000) (by omega) (by omega) (by omega) (by omega)
          have me : x * (y - h) = x * y - x * h := Int.mul_sub _ _ _
          have mb3 : -10000000 ≤ x * (y - h) ∧ x * (y - h) ≤ 10000000 := by omega
          obtain ⟨mb4, mb5⟩ := mb3
          clear mb1 mb2 me hy
          have w1 : IntKind.i64.wrap (y - h) = y - h := IntWalk.i64_in _ (by omega)
          have w2 : IntKind.i64.wrap (x * (y - h)) = x * (y - h) := IntWalk.i64_in _ (by omega)
          have w3 : IntKind.i64.wrap (mm + x * (y - h)) = mm + x * (y - h) := IntWalk.i64_in _ (by omega)
          have HK := Lib.hid hk
          have HB := Lib.hid hB
          have HBp := Lib.hid hBp
          have HU := Lib.hid hzu
          have HW := Lib.hid hW2
          have HP := Lib.hid hP2
          have g7 := Below.refl wr.heap.size wr
          clear hk hB hBp hzu hU2 hW2 hP2
          have hnp2 : some (⟨b2, off2 + k, none⟩ : Addr).block ≠ some p := fun e => by injection e with e; have := hPb (by omega) b2 rfl; simp only at e; omega
          have hqn : q ≤ 1048576 := by omega
          go_wp2_with (go_at_call 81; refine (l00Has_q _ _ _ _ _ _ _ HU.out hqn hh).mono ?_; rintro e w' ⟨rfl, rfl⟩)
          go_region_held3 (fun w' => w'.cell? ⟨p, 1, none⟩ = some (.slice (some ⟨b2, off2, none⟩) pn pc) ∧ w'.cell? ⟨p, 2, none⟩ = some (.int .i64 h) ∧ w'.cell? ⟨b2, off2 + k, none⟩ = some (.int .i64 y))
            (((try go_split_ands); (try dsimp only); (repeat' apply And.intro)) <;> first | assumption | exact keepd (by assumption) | exact keepc (Below.drew (g7.alloc (Nat.le_refl _) _)) e2 | exact keepc (Below.drew (g7.alloc (Nat.le_refl _) _)) e3 | exact keepc (Below.drew (g7.alloc (Nat.le_refl _) _)) hcy | exact keepc hb3 e2 | exact keepc hb3 e3 | exact keepc hb3 hcy | exact keepc (hb3.alloc hsz3 _) e2 | exact keepc (hb3.alloc hsz3 _) e3 | exact keepc (hb3.alloc hsz3 _) hcy | exact keepc hb4 e2 | exact keepc hb4 e3 | exact keepc hb4 hcy)
            (first
              | (go_at_call 58; (with_reducible refine (l00Own_at wr.heap.size wr U q uc us _ (Ints.keep HU.out (Below.drew g7)) hqn (Below.drew g7) (by exact (Below.drew g7).size)).mono ?_); rintro e w' ⟨C, pc2, rfl, hown, hb3, hsz3⟩)
              | (go_at_call 58; (with_reducible refine (l00Own_at2 U q uc us wr _ _ HU.out hqn).mono ?_); rintro e w' ⟨C, pc2, rfl, hown, hb3, hsz3, hsz4, hnews⟩)
              | (refine step_append_lies _ (by rfl) _ _ 24 (by rfl) (wr.heap.size) 2 i0 (.int .i64 0) 1 8 Try.underlying24 hi0 hz0 hz1 hz2 rfl (by decide) _ _ _ (by rfl) (World.ownsRow.alloc hown _) _ 1 1 [.int .i64 (k : Int)] (by rfl) (by rfl) (cell_one_new _ _ _) (ints_oneCell .i64 [(k : Int)]) (by decide) (by unfold maxLen; omega) (by omega) (by rw [World.size_alloc]; omega) _ rfl ?_; intro gn cap w1 hown1 hgrow1 hat1 hlt1; have hb4 := Below.grown (hb3.alloc hsz3 _) hgrow1 (by rw [World.size_alloc]; omega) (fun j e => (World.ownsRow.lt hown j e).1))
              | (refine step_append_lies _ (by rfl) _ _ 24 (by rfl) (wr.heap.size + 1) 2 i0 (.int .i64 0) 1 8 Try.underlying24 hi0 hz0 hz1 hz2 rfl (by decide) _ _ _ (by rfl) hown _ 1 1 [.int .i64 (k : Int)] (by rfl) (by rfl) hnews (ints_oneCell .i64 [(k : Int)]) (by decide) (by unfold maxLen; omega) (by omega) hsz4 _ rfl ?_; intro gn cap w1 hown1 hgrow1 hat1 hlt1; have hb4 := Below.grown hb3 hgrow1 hsz3 (fun j e => Nat.le_of_succ_le (World.ownsRow.lt hown j e).1))
              | (go_at_call 77; (with_reducible refine (ih (us ++ [(k : Int)]) (mm + x * (y - h)) _ (packK ws ps h d us mm st k) (some ⟨gn, 0, none⟩) BA (q + 1) cap bn bc (by simp; omega) (Ints.keep HW.out hb4) (Ints.keep HP.out hb4) (own_snoc hown1 (by omega)) (own_far hown1 (by omega)) (OwnI.keep HB.out hb4) HBp.out (HK.out.keep hb4) (by simp; omega) (by simp; omega)).mono ?_); rintro e w' ⟨rfl, ⟨BA2, bn2, bc2, hB2, hBp2, hk2⟩, hg2⟩; have hf1 := hk2.c1; have hf2 := hk2.c2; have hpc2 := hg2.cell (keepc hb4 hcy) hnp2))
          · skip
            go_wp2
            go_roundw
            case rel =>
              have e8 := Hs.out
              rw [hxg, hyg] at e8
              refine ⟨k + 1, by omega, by go_num, ⟨BA2, bn2, bc2, by rw [e8]; exact hB2, hBp2, by rw [e8]; exact hk2⟩, ?_⟩
              exact World.grownBy.trans' hg (World.grownBy.trans' (below_grown hb4 _) hg2)
            case measure => simp [intOf]; omega
          · skip
            go_wp2
            go_roundw
            case rel =>
              have e8 := Hs.out
              rw [hxg, hyg] at e8
              refine ⟨k + 1, by omega, by go_num, ⟨BA2, bn2, bc2, by rw [e8]; exact hB2, hBp2, by rw [e8]; exact hk2⟩, ?_⟩
              exact World.grownBy.trans' hg (World.grownBy.trans' (below_grown hb4 _) hg2)
            case measure => simp [intOf]; omega
        · rw [hh, if_pos rfl] at hsucc
          have Hs := Lib.hid hsucc
          have hqn : q ≤ 1048576 := by omega
          go_wp2_with (go_at_call 81; refine (l00Has_q _ _ _ _ _ _ _ hzu hqn hh).mono ?_; rintro e w' ⟨rfl, rfl⟩)
          go_roundw
          case rel => exact ⟨k + 1, by omega, by go_num, ⟨BA, bn, bc, by rw [Hs.out]; exact hB, hBp, by rw [Hs.out]; exact hk⟩, hg⟩
          case measure => simp [intOf]; omega
      · obtain rfl : k = pn := by omega
        go_wp2
        go_end0
        have e9 : packF ws ps h (d + 1) us mm st = packK ws ps h d us mm st k := by rw [hpf.out, hpl]
        rw [e9]
        exact ⟨rfl, ⟨_, _, _, hB, hBp, hk⟩, hg⟩
end Go.Proofs.Ytkkipkmjhakknaa
