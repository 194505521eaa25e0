/- LayerAt: contracts and law. -/
import Derived.Test.YtopefgahppfkcaaDoorVal7
namespace Go.Proofs.YtopefgahppfkcaaDoor
open Go.RowKit
set_option linter.unusedVariables false
set_option linter.unusedSimpArgs false

def LaV (ok : Bool) (cs : List R2) (r k code : Int) : Prop :=
  (ok = false ∧ k = 0 ∧ code = 1) ∨ (ok = true ∧ 0 ≤ r ∧ r < pre cs cs.length ∧ code = 0 ∧ ∃ j : Nat, k = j ∧ LayAt cs r j) ∨ (ok = true ∧ (r < 0 ∨ pre cs cs.length ≤ r) ∧ k = 0 ∧ code = 2)
theorem laV_one {ok : Bool} {cs : List R2} {r k code k' code' : Int} (hl : ok = true → Lays cs) (h : LaV ok cs r k code) (g : LaV ok cs r k' code') : k = k' ∧ code = code' := by
  rcases h with ⟨a, b, c⟩ | ⟨a, b, c, d, j, e, f⟩ | ⟨a, b, c, d⟩ <;> rcases g with ⟨a', b', c'⟩ | ⟨a', b', c', d', j', e', f'⟩ | ⟨a', b', c', d'⟩
  · omega
  · rw [a] at a'; exact absurd a' (by simp)
  · rw [a] at a'; exact absurd a' (by simp)
  · rw [a] at a'; exact absurd a' (by simp)
  · have := layAt_one (hl a) f f'
    omega
  · omega
  · rw [a] at a'; exact absurd a' (by simp)
  · omega
  · omega
def LaPost (ok : Bool) (cs : List R2) (r : Int) (w : World) (e : Ending) (w' : World) : Prop := ∃ k code : Int, e = .returned (.tuple #[.int .i64 k, .int .i64 code]) ∧ LaV ok cs r k code ∧ Below w.heap.size w w'
theorem wrap_low {y x : Int} {k : Nat} (hk : k ≤ 40) (h : y < 0 ∨ 10000 - 100 * (k : Int) ≤ y) (h0 : -9223372036854775808 ≤ y) (h1 : y ≤ 9223372036854775807) (x0 : 1 ≤ x) (x1 : x ≤ 100) :
    (wrap64 (y - x) < 0 ∨ 10000 - 100 * ((k + 1 : Nat) : Int) ≤ wrap64 (y - x)) ∧ -9223372036854775808 ≤ wrap64 (y - x) ∧ wrap64 (y - x) ≤ 9223372036854775807 := by
  unfold wrap64
  omega
set_option maxHeartbeats 1000000 in
theorem implLayerAt_any (st : Int) (A : Option Addr) (n c : Nat) (b : ByteArray) (cs : List R2) (r : Int) (w : World) (h : Recs w A n cs) (hs : ∀ x ∈ cs, x.1.size ≤ maxLen) (hn : n ≤ 1048576) (hb : b.size ≤ maxLen) (r0 : -9223372036854775808 ≤ r) (r1 : r ≤ 9223372036854775807) : Calls Tryd.prog 19 #[bval st A n c b, .int .i64 r] w (LaPost (okBas st cs b) cs r w) := by
  have HS := Box0.mk hs
  clear hs
  have hX := C3.new w (.int .i64 st) (.slice A n c) (.string b) 35
  have hR := h.alloc (.cells #[.int .i64 st, .slice A n c, .string b] 35)
  have HN := Lib.hid h.1
  cases hv : okBas st cs b
  · go_enter Tryd.func19, Tryd.ntmps19
    go_wp2_with fail
    refine (implValidBasket_eq st A n c b cs false _ hR HS.out hn hb hv).mono ?_
    rintro e w1 ⟨rfl, hb1⟩
    go_wp2_with fail
    go_ret2
    exact ⟨_, _, rfl, .inl ⟨rfl, rfl, rfl⟩, blaylow hb1⟩
  have HL := Box0.mk (okBas_lays hv)
  have hn40 : n ≤ 40 := by rw [← HN.out]; exact HL.out.len
  by_cases rn : r < 0
  · go_enter Tryd.func19, Tryd.ntmps19
    go_wp2_with fail
    refine (implValidBasket_eq st A n c b cs true _ hR HS.out hn hb hv).mono ?_
    rintro e w1 ⟨rfl, hb1⟩
    obtain ⟨c0, c1, c2⟩ := hX.keep hb1
    have hR1 := hR.keep hb1
    have hB1 : Below w.heap.size w w1 := blaylow hb1
    go_wp2_with fail
    go_loopw [1, 14] (fun s i wr => ∃ (k : Nat) (y : Int), k ≤ n ∧ i = .int .i64 k ∧ s = .int .i64 y ∧ (y < 0 ∨ 10000 - 100 * (k : Int) ≤ y) ∧ -9223372036854775808 ≤ y ∧ y ≤ 9223372036854775807 ∧ Below w1.heap.size w1 wr) (fun _ i _ => n - (intOf i).toNat)
    case atStart => exact ⟨0, r, Nat.zero_le _, rfl, rfl, .inl rn, r0, r1, Below.refl _ _⟩
    case round =>
    clear c0 c1 c2
    obtain ⟨k, y, hk, rfl, rfl, hy, y0, y1, hB⟩ := hrel
    by_cases hlt : k < n
    · obtain ⟨a, off, x, hA, hblt, hx, hc0, hc1⟩ := (hR1.keep hB).at_ hlt
      subst hA
      obtain ⟨x0, x1⟩ := HL.out.rng x (List.mem_of_getElem? hx)
      have HW := Box0.mk (wrap_low (by omega) hy y0 y1 x0 x1)
      clear hx
      by_cases yn : y < 0
      · have ty : decide (0 ≤ y) = false := decide_eq_false (by omega)
        go_wp2
        go_roundw
        case rel => exact ⟨k + 1, _, by omega, by go_num, rfl, HW.out.1, HW.out.2.1, HW.out.2.2, Below.trans hB (by have := hB.size; go_grown)⟩
        case measure => simp [intOf]; omega
      · have hy2 : 10000 - 100 * (k : Int) ≤ y := by omega
        have e0 := IntWalk.wrap64_in (y - x.2) ⟨by omega, by omega⟩
        have HW2 := Box0.mk HW.out
        rw [e0] at HW2
        clear hy e0 HW
        go_wp2
        go_roundw
        case rel => exact ⟨k + 1, _, by omega, by go_num, rfl, HW2.out.1, HW2.out.2.1, HW2.out.2.2, Below.trans hB (by have := hB.size; go_grown)⟩
        case measure => simp [intOf]; omega
    · go_wp2
      go_ret2
      exact ⟨_, _, rfl, .inr (.inr ⟨rfl, .inl rn, rfl, rfl⟩), belowT hB hB1⟩
  · go_enter Tryd.func19, Tryd.ntmps19
    go_wp2_with fail
    refine (implValidBasket_eq st A n c b cs true _ hR HS.out hn hb hv).mono ?_
    rintro e w1 ⟨rfl, hb1⟩
    obtain ⟨c0, c1, c2⟩ := hX.keep hb1
    have hR1 := hR.keep hb1
    have hB1 : Below w.heap.size w w1 := blaylow hb1
    go_wp2_with fail
    go_loopw [1, 14] (fun s i wr => ∃ (k : Nat), k ≤ n ∧ i = .int .i64 k ∧ s = .int .i64 (r - pre cs k) ∧ pre cs k ≤ r ∧ Below w1.heap.size w1 wr) (fun _ i _ => n - (intOf i).toNat)
    case atStart => exact ⟨0, Nat.zero_le _, rfl, by rw [pre_0]; simp, by rw [pre_0]; omega, Below.refl _ _⟩
    case round =>
    clear c0 c1 c2
    obtain ⟨k, hk, rfl, rfl, hy, hB⟩ := hrel
    have hp := pre_bd HL.out k (by rw [HN.out]; omega)
    by_cases hlt : k < n
    · obtain ⟨a, off, x, hA, hblt, hx, hc0, hc1⟩ := (hR1.keep hB).at_ hlt
      subst hA
      obtain ⟨x0, x1⟩ := HL.out.rng x (List.mem_of_getElem? hx)
      have HP := Lib.hid (pre_succ hx)
      have hkl := (List.getElem?_eq_some_iff.1 hx).1
      have hpm := pre_mono HL.out (show k + 1 ≤ cs.length by omega) (Nat.le_refl _)
      have HM := Lib.hid hpm
      clear hx hpm
      by_cases yn : r - pre cs k < x.2
      · go_wp2
        go_ret2
        exact ⟨_, _, rfl, .inr (.inl ⟨rfl, by omega, by have := HM.out; rw [HP.out] at this; omega, rfl, k, rfl, ⟨hkl, hy, by rw [HP.out]; omega⟩⟩), Below.trans hB1 (by have := hB.size; exact (belowT (by go_grown) hB).mono (by have := hB1.size; omega))⟩
      · go_wp2
        go_roundw
        case rel => exact ⟨k + 1, by omega, by go_num, by rw [HP.out]; go_num, by rw [HP.out]; omega, Below.trans hB (by have := hB.size; go_grown)⟩
        case measure => simp [intOf]; omega
    · obtain rfl : k = n := by omega
      go_wp2
      go_ret2
      exact ⟨_, _, rfl, .inr (.inr ⟨rfl, .inr (by rw [HN.out]; exact hy), rfl, rfl⟩), belowT hB hB1⟩
set_option maxHeartbeats 1000000 in
theorem specLayerAt_any (st : Int) (A : Option Addr) (n c : Nat) (b : ByteArray) (cs : List R2) (r : Int) (w : World) (h : Recs w A n cs) (hs : ∀ x ∈ cs, x.1.size ≤ maxLen) (hn : n ≤ 1048576) (hb : b.size ≤ maxLen) (r0 : -9223372036854775808 ≤ r) (r1 : r ≤ 9223372036854775807) : Calls Tryd.prog 18 #[bval st A n c b, .int .i64 r] w (LaPost (okBas st cs b) cs r w) := by
  have HS := Box0.mk hs
  clear hs
  have hX := C3.new w (.int .i64 st) (.slice A n c) (.string b) 35
  have hR := h.alloc (.cells #[.int .i64 st, .slice A n c, .string b] 35)
  have HN := Lib.hid h.1
  cases hv : okBas st cs b
  · go_enter Tryd.func18, Tryd.ntmps18
    go_wp2_with fail
    refine (l17Ok_eq _ st A n c b cs false _ hX hR HS.out hn hb hv).mono ?_
    rintro e w1 ⟨rfl, hb1⟩
    go_wp2_with fail
    go_ret2
    exact ⟨_, _, rfl, .inl ⟨rfl, rfl, rfl⟩, blaylow hb1⟩
  have HL := Box0.mk (okBas_lays hv)
  have hn40 : n ≤ 40 := by rw [← HN.out]; exact HL.out.len
  have hpn := pre_bd HL.out n (by rw [HN.out]; exact Nat.le_refl _)
  cases hin : inB r 0 (pre cs n - 1)
  · have hno := (inB_not _ _ _).1 hin
    have HNo := Lib.hid hno
    clear hno
    go_enter Tryd.func18, Tryd.ntmps18
    go_wp2_with fail
    refine (l17Ok_eq _ st A n c b cs true _ hX hR HS.out hn hb hv).mono ?_
    rintro e w1 ⟨rfl, hb1⟩
    go_wp2_with fail
    refine (l17Rounds_any _ st A n c b cs _ (hX.keep hb1) (hR.keep hb1) HL.out).mono ?_
    rintro e w' ⟨rfl, rfl⟩
    go_wp2_with fail
    refine (l00InE _ _ _ false _ hin).mono ?_
    rintro e w' ⟨rfl, rfl⟩
    go_wp2_with fail
    go_ret2
    exact ⟨_, _, rfl, .inr (.inr ⟨rfl, by rw [HN.out]; have := HNo.out; omega, rfl, rfl⟩), blaylow hb1⟩
  obtain ⟨q0, q1⟩ := (inB_iff _ _ _).1 hin
  go_enter Tryd.func18, Tryd.ntmps18
  go_wp2_with fail
  refine (l17Ok_eq _ st A n c b cs true _ hX hR HS.out hn hb hv).mono ?_
  rintro e w1 ⟨rfl, hb1⟩
  have hX1 := hX.keep hb1
  have hR1 := hR.keep hb1
  have hB1 : Below w.heap.size w w1 := blaylow hb1
  go_wp2_with fail
  refine (l17Rounds_any _ st A n c b cs _ hX1 hR1 HL.out).mono ?_
  rintro e w' ⟨rfl, rfl⟩
  go_wp2_with fail
  refine (l00InE _ _ _ true _ hin).mono ?_
  rintro e w' ⟨rfl, rfl⟩
  obtain ⟨c0, c1, c2⟩ := hX1
  clear hb1 hX hR
  go_wp2_with fail
  go_loop [1, 6] (fun s i => ∃ k : Nat, k < n ∧ i = .int .i64 k ∧ s = .int .i64 (r - pre cs k) ∧ pre cs k ≤ r) (fun _ i => n - (intOf i).toNat)
  case atStart => exact ⟨0, by rcases Nat.eq_zero_or_pos n with h0 | h0; (subst h0; simp [pre] at q1; omega); exact h0, rfl, by rw [pre_0]; simp, by rw [pre_0]; omega⟩
  case round =>
  obtain ⟨k, hlt, rfl, rfl, hy⟩ := hrel
  have hp := pre_bd HL.out k (by rw [HN.out]; omega)
  obtain ⟨a, off, x, hA, hblt, hx, hc0, hc1⟩ := hR1.at_ hlt
  subst hA
  obtain ⟨x0, x1⟩ := HL.out.rng x (List.mem_of_getElem? hx)
  have HP := Lib.hid (pre_succ hx)
  have hkl := (List.getElem?_eq_some_iff.1 hx).1
  clear hx
  by_cases yn : r - pre cs k < x.2
  · have t0 : ¬ x.2 ≤ r - pre cs k := by omega
    go_wp2
    go_ret2
    exact ⟨_, _, rfl, .inr (.inl ⟨rfl, q0, by rw [HN.out]; omega, rfl, k, rfl, ⟨hkl, hy, by rw [HP.out]; omega⟩⟩), hB1⟩
  · have hk2 : k + 1 < n := by
      rcases Nat.lt_or_ge (k + 1) n with h2 | h2
      · exact h2
      · have e : k + 1 = n := by omega
        have := HP.out
        rw [e] at this
        omega
    go_wp2
    go_round
    case rel => exact ⟨k + 1, hk2, by go_num, by rw [HP.out]; go_num, by rw [HP.out]; omega⟩
    case measure => simp [intOf]; omega
theorem wf_i64 {r : Int} (h : (Lit.int .i64 r).wf = true) : -9223372036854775808 ≤ r ∧ r ≤ 9223372036854775807 := by
  simp [Lit.wf, IntKind.min, IntKind.max, IntKind.bits, IntKind.signed] at h
  omega
set_option maxRecDepth 100000 in
set_option maxHeartbeats 4000000 in
theorem law_FnExactLayerAt (w : World) (c0 c1 c2 : Value) (S : Bas) (h0 : IsBasket w c0 c1 c2 S) (r : Int) (hr : (Lit.int .i64 r).wf = true) : Calls Tryd.prog 6 #[.agg #[c0, c1, c2], .int .i64 r] w fun e w' => e = .returned (.bool true) ∧ Below w.heap.size w w' := by
  obtain ⟨st, A, n, c, cs, b⟩ := S
  obtain ⟨rfl, rfl, rfl, ⟨hn, h, hs⟩, hb, _⟩ := h0
  simp only at hn h hs hb ⊢
  have HS := Box0.mk (fun x hx => (hs x hx).1)
  clear hs
  go_enter Tryd.func6, Tryd.ntmps6
  go_wp2_with fail
  obtain ⟨W, hW, hX, hB⟩ := box1 w (.int .i64 st) (.slice A n c) (.string b) 30
  have h' := h.keep hB
  rw [hW]
  clear hW h
  refine (szBasket_any st A n c b cs 1048576 _ h' HS.out hn hb (by omega) (by omega)).mono ?_
  rintro e w1 ⟨v, rfl, hb1, v1, v2⟩
  have hV := Box0.mk v2
  clear v2
  replace hB := belowT hb1 hB
  by_cases v0 : v < 0
  · go_wp2_with fail
    go_ret
    exact ⟨rfl, hB⟩
  have hn2 : n ≤ 1048576 := hV.out (by omega)
  replace hX := hX.keep hb1
  have hR := Box0.mk (h'.keep hb1)
  clear h' hb1
  obtain ⟨x0, x1, x2⟩ := id hX
  go_wp2_with fail
  refine (toBasket_any _ _ _ _ _ _ _ hR.out hn2).mono ?_
  rintro e w2 ⟨X0, rfl, hX1, hX2, hO1, hb2⟩
  replace hX := hX.keep hb2
  replace hR := Box0.mk (hR.out.keep hb2)
  replace hB := belowT hb2 hB
  clear hb2 x0 x1 x2
  obtain ⟨x0, x1, x2⟩ := id hX
  go_wp2_with fail
  refine (specLayerAt_any _ _ _ _ _ _ _ _ hO1.recs HS.out hn2 hb (wf_i64 hr).1 (wf_i64 hr).2).mono ?_
  rintro e w3 ⟨k1, z1, rfl, hL1, hb3⟩
  have HL1 := Box0.mk hL1
  clear hL1
  replace hX := hX.keep hb3
  replace hR := Box0.mk (hR.out.keep hb3)
  replace hB := belowT hb3 hB
  clear hb3 x0 x1 x2 hO1 hX1 hX2
  obtain ⟨x0, x1, x2⟩ := id hX
  go_wp2_with fail
  refine (toBasket_any _ _ _ _ _ _ _ hR.out hn2).mono ?_
  rintro e w4 ⟨X1, rfl, hX1, hX2, hO1, hb4⟩
  replace hX := hX.keep hb4
  replace hR := Box0.mk (hR.out.keep hb4)
  replace hB := belowT hb4 hB
  have hE := C3.new w4 (.int .i64 st) (.slice (some ⟨X1, 0, none⟩) n n) (.string b) 35
  have hB4 : Below w4.heap.size w4 (w4.alloc (.cells #[.int .i64 st, .slice (some ⟨X1, 0, none⟩) n n, .string b] 35)) := by go_grown
  clear hb4 x0 x1 x2
  go_wp2_with fail
  have hRO := Box0.mk (hO1.recs.keep hB4)
  refine (implLayerAt_any _ _ _ _ _ _ _ _ hRO.out HS.out hn2 hb (wf_i64 hr).1 (wf_i64 hr).2).mono ?_
  rintro e w5 ⟨k2, z2, rfl, hL2, hb5⟩
  obtain ⟨rfl, rfl⟩ := laV_one okBas_lays HL1.out hL2
  clear hL2
  have hb45 := belowT hb5 hB4
  replace hE := hE.keep hb5
  replace hRO := Box0.mk (hRO.out.keep hb5)
  replace hX := hX.keep hb45
  replace hR := Box0.mk (hR.out.keep hb45)
  replace hB := belowT hb45 hB
  obtain ⟨x0, x1, x2⟩ := id hX
  obtain ⟨e0, e1, e2⟩ := id hE
  clear hb45 hb5 hB4 hE hX hX1 hX2 hO1
  generalize w4.heap.size = q3 at *
  generalize hv : okBas st cs b = vv
  have tb : (vv != vv) = false := by simp
  have t1 : (k1 != k1) = false := by simp
  have t2 : (z1 != z1) = false := by simp
  go_wp2_with fail
  go_region_held3 (fun w' => w'.cell? ⟨w.heap.size, 0, none⟩ = some (.int .i64 st) ∧ w'.cell? ⟨w.heap.size, 1, none⟩ = some (.slice A n c) ∧ w'.cell? ⟨w.heap.size, 2, none⟩ = some (.string b)
      ∧ w'.cell? ⟨q3, 0, none⟩ = some (.int .i64 st) ∧ w'.cell? ⟨q3, 1, none⟩ = some (.slice (some ⟨X1, 0, none⟩) n n) ∧ w'.cell? ⟨q3, 2, none⟩ = some (.string b)
      ∧ Box0 (Recs w' A n cs) ∧ Box0 (Recs w' (some ⟨X1, 0, none⟩) n cs) ∧ Below w.heap.size w w')
    (((try go_split_ands); (try dsimp only); (repeat' apply And.intro)) <;> first | assumption | exact keepd (by assumption) | exact Below.drew (by assumption) | exact keepc hb2 (by assumption) | exact belowT hb2 (by assumption) | exact Box0.mk (Recs.drew (Box0.out (by assumption))) | exact Box0.mk (Recs.keep (Box0.out (by assumption)) hb2))
    ((first
      | (go_at_call 13; refine (toBasket_any _ _ _ _ _ _ _ (by go_split_ands; exact Box0.out (by assumption)) (by assumption)).mono ?_; rintro e w' ⟨X, rfl, hX1, hX2, hO, hb2⟩)
      | (go_at_call 15; refine (eqBasket_same _ _ _ _ _ _ _ _ _ (by go_split_ands; exact Box0.out (by assumption)) (OwnR.recs (by assumption)) hn2).mono ?_; rintro e w' ⟨rfl, hb2⟩)))
  go_split_ands
  go_wp2_with fail
  go_ret
  exact ⟨rfl, by assumption⟩
end Go.Proofs.YtopefgahppfkcaaDoor
