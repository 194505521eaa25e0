/- PackLevel: its closure. -/
import Derived.Test.YtkkipkmjhakknaaPackG
import Derived.StillTailTactics
import Derived.Deep.RegionLaw
namespace Go.Proofs.Ytkkipkmjhakknaa
open Go.RowKit
set_option linter.unusedVariables false
set_option linter.unusedSimpArgs false

theorem distA_eq (m v : Int) (w : World) (a0 : -1000000000000 ≤ m) (a1 : m ≤ 1000000000000) (hv : absI m = v) : Calls Try.prog 55 #[.int .i64 m, .int .i64 0] w fun e w' => e = .returned (.int .i64 v) ∧ w = w' := by
  subst hv
  exact (distance0_eq m m.natAbs w a0 a1 rfl).mono fun _ _ ⟨a, b⟩ => ⟨by rw [a, absI_nat], by first | exact b | exact b.symm⟩
theorem cloneI_any (A : Option Addr) (n c : Nat) (zs : List Int) (w : World) (h : Ints w A n zs) (hn : n ≤ 1048576) : Calls Try.prog 56 #[.slice A n c] w fun e w' =>
    ∃ C p, e = .returned (.slice C n p) ∧ OwnI w' w.heap.size (.slice C n p) n zs ∧ Below w.heap.size w w' := by
  obtain ⟨i0, hi0, hz0, hz1, hz2⟩ := info_parts info_i64
  have q22 : ∀ (w : World) (a : Option Addr) (n c n' c' : Nat), (binOp .eql 24 (.slice a n c) (.slice none n' c')).run Try.prog w = .ok (.bool a.isNone) w := fun w a n c n' c' => Lib.run_eql_slice_nil w _ _ a n c n' c' Try.underlying24
  have HL := Lib.hid h.1
  have hb0 : Below w.heap.size w (w.alloc (.cells #[] 2)) := (Below.refl _ _).alloc (Nat.le_refl _) _
  cases A with
  | none =>
    have hn0 : n = 0 := by
      rcases Nat.eq_zero_or_pos n with h1 | h1
      · exact h1
      · obtain ⟨b, off, e, _⟩ := h.2 h1; cases e
    subst hn0
    have hz : zs = [] := List.eq_nil_of_length_eq_zero HL.out
    subst hz
    go_enter Try.func56, Try.ntmps56
    go_wp2
    go_ret
    exact ⟨_, _, rfl, World.ownsRow_nil _ _ _ _, Below.refl _ _⟩
  | some a =>
    rcases Nat.eq_zero_or_pos n with rfl | hp
    · have hz : zs = [] := List.eq_nil_of_length_eq_zero HL.out
      subst hz
      go_enter Try.func56, Try.ntmps56
      go_wp2
      go_ret
      exact ⟨_, _, rfl, World.ownsRow_made _ _ _ (by simp) (by unfold maxLen; omega) (by simp), by (repeat' (first | (with_reducible exact Below.refl _ _) | (with_reducible assumption) | (with_reducible refine Below.drew ?_) | (with_reducible refine below_drewN ?_ _) | (with_reducible refine Below.setCell ?_ ?_ _) | (with_reducible refine Below.alloc ?_ ?_ _) | go_size))⟩
    obtain ⟨b, off, e, hlt, hc⟩ := h.2 hp
    injection e with e
    subst e
    have HC := Lib.hid hc
    clear hc
    go_enter Try.func56, Try.ntmps56
    go_wp2_with (at_builtin; refine wpList_append_own _ rfl _ _ 24 rfl w.heap.size 2 i0 (.int .i64 0) 1 8 Try.underlying24 hi0 hz0 hz1 hz2 rfl (by decide) _ _ _ rfl (World.ownsRow_made w #[] 0 (Nat.le_refl _) (Nat.zero_le _) rfl) ⟨b, off, none⟩ n c (zs.map (Value.int .i64)) rfl ?qc1 ?qc2 ?qc3 ?qc4 ?qc5 ?qc6 ?_)
    case qc1 => simp [HL.out]
    case qc2 =>
      intro j u hj
      rw [List.getElem?_map] at hj
      obtain ⟨z, hz, rfl⟩ := Option.map_eq_some_iff.1 hj
      rw [Addr.add_lit]
      exact keepc hb0 (HC.out j z hz)
    case qc3 => intro u hu; obtain ⟨x, _, rfl⟩ := List.mem_map.1 hu; rfl
    case qc4 => unfold maxLen; omega
    case qc5 => omega
    case qc6 => simp
    intro v' w1 hown hgrow hnil
    go_wp2
    go_ret
    have hown' : OwnI w1 w.heap.size v' n zs := by simpa using hown
    have hBf := hb0.grown hgrow (by simp) (by intro k hk; simp [Value.ownBlock] at hk; omega)
    rcases hown'.2 with ⟨h1, h2⟩ | ⟨g, cap, cur, hv, _⟩
    · omega
    · subst hv
      exact ⟨_, _, rfl, hown', hBf⟩
/-- The closure's value. -/
def cloF (bs bw bl bb bp bu bf bh : Nat) : Value := .func (.func 54) #[] #[.pointer (some ⟨bs, 0, none⟩), .pointer (some ⟨bw, 0, none⟩), .pointer (some ⟨bl, 0, none⟩), .pointer (some ⟨bb, 0, none⟩), .pointer (some ⟨bp, 0, none⟩), .pointer (some ⟨bu, 0, none⟩), .pointer (some ⟨bf, 0, none⟩), .pointer (some ⟨bh, 0, none⟩)]
theorem far9_fresh {w : World} {bs bw bl bb bp bu bf bh ub : Nat} {W P F : Value} {h : Int} {pn : Nat} {S B : Value} {l : Int} {f : Nat → Bool} (H : CloC w bs bw bl bb bp bu bf bh ub W P F h pn S B l f) {g : Nat} (hg : w.heap.size ≤ g) : Far9 bs bw bl bb bp bu bf bh ub g := by
  have h1 := World.block_lt_of_cell? _ _ H.cs
  have h2 := World.block_lt_of_cell? _ _ H.cw
  have h3 := World.block_lt_of_cell? _ _ H.cl
  have h4 := World.block_lt_of_cell? _ _ H.cb
  have h5 := World.block_lt_of_cell? _ _ H.cp
  have h6 := World.block_lt_of_cell? _ _ H.cu
  have h7 := World.block_lt_of_cell? _ _ H.cf
  have h8 := World.block_lt_of_cell? _ _ H.ch
  have h9 := H.ul
  simp only at h1 h2 h3 h4 h5 h6 h7 h8
  unfold Far9
  omega
theorem clo_app {w w' : World} {bs bw bl bb bp bu bf bh ub base : Nat} {W P F : Value} {h : Int} {pn : Nat} {S B : Value} {l : Int} {f : Nat → Bool} {U BA : Option Addr} {q uc bn bc : Nat} {us xs : List Int} {o : Obj} (H : CloC w bs bw bl bb bp bu bf bh ub W P F h pn S B l f) (O : CloO w base (Far9 bs bw bl bb bp bu bf bh ub) U BA q uc bn bc us xs) (hg : (w.alloc o).drew.grownBy w' (Value.slice U q uc).ownBlock) : CloC w' bs bw bl bb bp bu bf bh ub W P F h pn S B l f := by
  have h1 := H.keep (Below.drew ((Below.refl _ _).alloc (Nat.le_refl _) o))
  exact h1.grown hg (fun g e => O.farU g (by rw [blk_own] at e; exact e))
theorem clo_push {w w4 : World} {bs bw bl bb bp bu bf bh ub base : Nat} {W P F : Value} {h : Int} {pn : Nat} {S B : Value} {l : Int} {f : Nat → Bool} {U BA : Option Addr} {q uc bn bc : Nat} {us xs : List Int} {o : Obj} {gn cap k : Nat} (v v' : Value) (H : CloC w bs bw bl bb bp bu bf bh ub W P F h pn S B l f) (O : CloO w base (Far9 bs bw bl bb bp bu bf bh ub) U BA q uc bn bc us xs) (hg : (w.alloc o).drew.grownBy w4 (Value.slice U q uc).ownBlock)
    (hown : w4.ownsRow base 2 1 (.slice (some ⟨gn, 0, none⟩) (q + 1) cap) (q + 1) (us.map (Value.int .i64) ++ [.int .i64 (k : Int)])) (hat : (Value.slice U q uc).ownBlock = some gn ∨ gn = w.heap.size + 1) :
    CloO ((w4.setCell ⟨ub, k, none⟩ v).setCell ⟨bs, 0, none⟩ v') base (Far9 bs bw bl bb bp bu bf bh ub) (some ⟨gn, 0, none⟩) BA (q + 1) cap bn bc (us ++ [(k : Int)]) xs := by
  have h1 := O.keep (Below.drew ((Below.refl _ _).alloc (Nat.le_refl _) o))
  have O4 : CloO w4 base (Far9 bs bw bl bb bp bu bf bh ub) (some ⟨gn, 0, none⟩) BA (q + 1) cap bn bc (us ++ [(k : Int)]) xs := by
    refine ⟨own_snoc hown (Nat.le_refl _), OwnI.grown h1.best hg (fun g e => O.apart g (by rw [blk_own] at e; exact e)), fun g e => ?_, O.farB, fun g e e2 => ?_⟩
    · have e3 : gn = g := by simpa [blk] using e
      subst e3
      rcases hat with e4 | e4
      · exact O.farU _ (by rw [blk_own] at e4; exact e4)
      · exact far9_fresh H (by omega)
    · have e3 : gn = g := by simpa [blk] using e
      subst e3
      rcases hat with e4 | e4
      · exact O.apart _ (by rw [blk_own] at e4; exact e4) e2
      · have := (OwnI.lt O.best _ e2).2
        omega
  exact (O4.set ub k v (fun k => k.2.2.2.2.2.2.2.2 rfl)).set bs 0 v' (fun k => k.1 rfl)
theorem clo_below {W0 w w4 : World} {base : Nat} {Far : Nat → Prop} {U BA : Option Addr} {q uc bn bc : Nat} {us xs : List Int} {o : Obj} (hB : Below base W0 w) (hs : base ≤ w.heap.size) (O : CloO w base Far U BA q uc bn bc us xs) (hg : (w.alloc o).drew.grownBy w4 (Value.slice U q uc).ownBlock) : Below base W0 w4 :=
  (Below.drew (hB.alloc hs o)).grown hg (by have : (w.alloc o).drew.heap.size = w.heap.size + 1 := World.size_alloc _ _
                                            omega) (fun g e => (OwnI.lt O.own g (by rw [blk_own] at e; exact e)).1)
set_option maxRecDepth 100000 in
set_option maxHeartbeats 4000000 in
theorem clo_any (W0 : World) (ws ps : List Int) (h : Int) (bs bw bl bb bp bu bf bh ub base : Nat) (WA PA : Option Addr) (wn wc pn pc : Nat) (hws : ∀ x ∈ ws, 0 ≤ x ∧ x ≤ 10000) (hps : ∀ x ∈ ps, 0 ≤ x ∧ x ≤ 1000) (h0 : 0 ≤ h) (h1 : h ≤ 1000) (hw6 : ws.length ≤ 6) (hp6 : ps.length ≤ 6) (hbase : W0.heap.size = base) (hWi : Ints W0 WA wn ws) (hPi : Ints W0 PA pn ps) (D : Dif9 bs bw bl bb bp bu bf bh ub) (l1 : base ≤ bs) (l2 : base ≤ bl) (l3 : base ≤ bb) (l4 : base ≤ ub) :
    ∀ (d : Nat) (us : List Int) (mm : Int) (w : World) (st : List Int × Int) (U BA : Option Addr) (q uc bn bc : Nat), us.length + d = ws.length → CloC w bs bw bl bb bp bu bf bh ub (.slice WA wn wc) (.slice PA pn pc) (cloF bs bw bl bb bp bu bf bh) h pn (.slice U q uc) (.slice BA bn bc) st.2 (fun j => hasI us j) → CloO w base (Far9 bs bw bl bb bp bu bf bh ub) U BA q uc bn bc us st.1 → Below base W0 w → -(10000000 * us.length) ≤ mm → mm ≤ 10000000 * us.length →
    Calls Try.prog 54 #[.int .i64 mm, .pointer (some ⟨bs, 0, none⟩), .pointer (some ⟨bw, 0, none⟩), .pointer (some ⟨bl, 0, none⟩), .pointer (some ⟨bb, 0, none⟩), .pointer (some ⟨bp, 0, none⟩), .pointer (some ⟨bu, 0, none⟩), .pointer (some ⟨bf, 0, none⟩), .pointer (some ⟨bh, 0, none⟩)] w fun e w' =>
      e = .returned (.tuple #[]) ∧ Below base W0 w' ∧ ∃ U' BA' uc' bn' bc', CloC w' bs bw bl bb bp bu bf bh ub (.slice WA wn wc) (.slice PA pn pc) (cloF bs bw bl bb bp bu bf bh) h pn (.slice U' q uc') (.slice BA' bn' bc') (packF ws ps h d us mm st).2 (fun j => hasI us j) ∧ CloO w' base (Far9 bs bw bl bb bp bu bf bh ub) U' BA' q uc' bn' bc' us (packF ws ps h d us mm st).1 := by
  intro d
  induction d with
  | zero =>
    intro us mm w st U BA q uc bn bc hd hC hO hB m0 m1
    have hwl := hWi.1
    have hq : q = wn := by have := OwnI.len hO.own; omega
    subst hq
    have hq6 : us.length ≤ 6 := by omega
    have hqn : q ≤ 1048576 := by omega
    have e1 := hC.cs
    have e2 := hC.cw
    have e3 := hC.cl
    have z1 := hC.zl
    have z2 := hC.zb
    have e4 := hC.cb
    obtain ⟨v, hv⟩ : ∃ v, absI mm = v := ⟨_, rfl⟩
    obtain ⟨l, hl⟩ : ∃ l, st.2 = l := ⟨_, rfl⟩
    rw [hl] at e3
    by_cases hc : l < 0 ∨ v < l
    · have hpk : packF ws ps h 0 us mm st = (us, v) := by unfold packF leafP; rw [hl, hv, if_pos hc]
      rw [hpk]
      rcases hc with hc | hc
      · go_enter Try.func54, Try.ntmps54
        go_wp2_with (go_at_call 55; refine (distA_eq _ _ _ (by omega) (by omega) hv).mono ?_; rintro e w' ⟨rfl, rfl⟩)
        · skip
          refine (cloneI_any _ _ _ _ _ (OwnI.ints hO.own) hqn).mono ?_
          rintro e w2 ⟨C2, p2, rfl, hc2, hb2⟩
          have hC2 := hC.keep hb2
          have hO2 := hO.keep hb2
          have hB2 : Below base W0 w2 := hB.trans (hb2.mono (by have := hB.size; omega))
          have f4 := hC2.cb
          have f3 := hC2.cl
          have y1 := hC2.zl
          have y2 := hC2.zb
          have hfar : ∀ g, blk C2 = some g → w.heap.size ≤ g := fun g hg => (OwnI.lt hc2 g hg).1
          have n1 : ¬ bb = bl := D.l.2.1.symm
          have n2 : ¬ bl = bb := D.l.2.1
          go_wp2
          ((try simp only [Exit.inBlock, Exit.then]); refine bodyPost_ret (results_none rfl _ _ _) rfl ?_)
          refine ⟨rfl, (hB2.setCell (p := ⟨bb, 0, none⟩) l3 _).setCell (p := ⟨bl, 0, none⟩) l2 _, _, _, _, _, _, (hC2.setB D _).setL D v, ?_⟩
          have hO3 : CloO w2 base (Far9 bs bw bl bb bp bu bf bh ub) U C2 q uc q p2 us us := ⟨hO2.own, OwnI.low hc2 (by have := hB.size; omega), hO.farU, fun g hg => far9_fresh hC (hfar g hg), fun g hg hg2 => by have := hfar g hg2; have := (OwnI.lt hO.own g hg).2; omega⟩
          exact (hO3.set bb 0 _ (fun k => k.2.2.2.1 rfl)).set bl 0 _ (fun k => k.2.2.1 rfl)
      · by_cases hl0 : l < 0
        · go_enter Try.func54, Try.ntmps54
          go_wp2_with (go_at_call 55; refine (distA_eq _ _ _ (by omega) (by omega) hv).mono ?_; rintro e w' ⟨rfl, rfl⟩)
          refine (cloneI_any _ _ _ _ _ (OwnI.ints hO.own) hqn).mono ?_
          rintro e w2 ⟨C2, p2, rfl, hc2, hb2⟩
          have hC2 := hC.keep hb2
          have hO2 := hO.keep hb2
          have hB2 : Below base W0 w2 := hB.trans (hb2.mono (by have := hB.size; omega))
          have f4 := hC2.cb
          have f3 := hC2.cl
          have y1 := hC2.zl
          have y2 := hC2.zb
          have hfar : ∀ g, blk C2 = some g → w.heap.size ≤ g := fun g hg => (OwnI.lt hc2 g hg).1
          have n1 : ¬ bb = bl := D.l.2.1.symm
          have n2 : ¬ bl = bb := D.l.2.1
          go_wp2
          ((try simp only [Exit.inBlock, Exit.then]); refine bodyPost_ret (results_none rfl _ _ _) rfl ?_)
          refine ⟨rfl, (hB2.setCell (p := ⟨bb, 0, none⟩) l3 _).setCell (p := ⟨bl, 0, none⟩) l2 _, _, _, _, _, _, (hC2.setB D _).setL D v, ?_⟩
          have hO3 : CloO w2 base (Far9 bs bw bl bb bp bu bf bh ub) U C2 q uc q p2 us us := ⟨hO2.own, OwnI.low hc2 (by have := hB.size; omega), hO.farU, fun g hg => far9_fresh hC (hfar g hg), fun g hg hg2 => by have := hfar g hg2; have := (OwnI.lt hO.own g hg).2; omega⟩
          exact (hO3.set bb 0 _ (fun k => k.2.2.2.1 rfl)).set bl 0 _ (fun k => k.2.2.1 rfl)
        · go_enter Try.func54, Try.ntmps54
          go_wp2_with (go_at_call 55; refine (distA_eq _ _ _ (by omega) (by omega) hv).mono ?_; rintro e w' ⟨rfl, rfl⟩)
          refine (cloneI_any _ _ _ _ _ (OwnI.ints hO.own) hqn).mono ?_
          rintro e w2 ⟨C2, p2, rfl, hc2, hb2⟩
          have hC2 := hC.keep hb2
          have hO2 := hO.keep hb2
          have hB2 : Below base W0 w2 := hB.trans (hb2.mono (by have := hB.size; omega))
          have f4 := hC2.cb
          have f3 := hC2.cl
          have y1 := hC2.zl
          have y2 := hC2.zb
          have hfar : ∀ g, blk C2 = some g → w.heap.size ≤ g := fun g hg => (OwnI.lt hc2 g hg).1
          have n1 : ¬ bb = bl := D.l.2.1.symm
          have n2 : ¬ bl = bb := D.l.2.1
          go_wp2
          ((try simp only [Exit.inBlock, Exit.then]); refine bodyPost_ret (results_none rfl _ _ _) rfl ?_)
          refine ⟨rfl, (hB2.setCell (p := ⟨bb, 0, none⟩) l3 _).setCell (p := ⟨bl, 0, none⟩) l2 _, _, _, _, _, _, (hC2.setB D _).setL D v, ?_⟩
          have hO3 : CloO w2 base (Far9 bs bw bl bb bp bu bf bh ub) U C2 q uc q p2 us us := ⟨hO2.own, OwnI.low hc2 (by have := hB.size; omega), hO.farU, fun g hg => far9_fresh hC (hfar g hg), fun g hg hg2 => by have := hfar g hg2; have := (OwnI.lt hO.own g hg).2; omega⟩
          exact (hO3.set bb 0 _ (fun k => k.2.2.2.1 rfl)).set bl 0 _ (fun k => k.2.2.1 rfl)
    · have hpk : packF ws ps h 0 us mm st = st := by unfold packF leafP; rw [hl, hv, if_neg hc]
      rw [hpk]
      have c1 : ¬ l < 0 := by omega
      have c2 : ¬ v < l := by omega
      clear hc
      go_enter Try.func54, Try.ntmps54
      go_wp2_with (go_at_call 55; refine (distA_eq _ _ _ (by omega) (by omega) hv).mono ?_; rintro e w' ⟨rfl, rfl⟩)
      ((try simp only [Exit.inBlock, Exit.then]); refine bodyPost_ret (results_none rfl _ _ _) rfl ?_)
      exact ⟨rfl, hB, _, _, _, _, _, hC, hO⟩
  | succ d ih =>
    intro us mm w st U BA q uc bn bc hd hC hO hB m0 m1
    obtain ⟨i0, hi0, hz0, hz1, hz2⟩ := info_parts info_i64
    have hql := OwnI.len hO.own
    have hwl := hWi.1
    have hpl := hPi.1
    have hqw : q < wn := by omega
    have hq6 : q < 6 := by omega
    have tq : ((q : Int) == (wn : Int)) = false := by rw [beq_eq_false_iff_ne]; omega
    have e1 := hC.cs
    have e2 := hC.cw
    have e5 := hC.cp
    have q1 : (q : Int) < (wn : Int) := by omega
    have q0 : (0 : Int) ≤ (q : Int) := by omega
    have hpf := Lib.hid (packF_succ ws ps h d us mm st)
    go_enter Try.func54, Try.ntmps54
    go_wp2
    go_loopw [33] (fun i wr => ∃ k : Nat, k ≤ pn ∧ i = .int .i64 k ∧ Below base W0 wr ∧ ∃ U' BA' uc' bn' bc', CloC wr bs bw bl bb bp bu bf bh ub (.slice WA wn wc) (.slice PA pn pc) (cloF bs bw bl bb bp bu bf bh) h pn (.slice U' q uc') (.slice BA' bn' bc') (packK ws ps h d us mm st k).2 (fun j => hasI us j) ∧ CloO wr base (Far9 bs bw bl bb bp bu bf bh ub) U' BA' q uc' bn' bc' us (packK ws ps h d us mm st k).1) (fun i _ => pn - (intOf i).toNat)
    case atStart => exact ⟨0, Nat.zero_le _, rfl, hB, _, _, _, _, _, hC, hO⟩
    case round =>
      clear e1 e2 e5 hB hC hO
      obtain ⟨k, hkp, rfl, hB, U, BA, uc, bn, bc, hC, hO⟩ := hrel
      by_cases hkn : k < pn
      · have k1 : (k : Int) < (pn : Int) := by omega
        have k0 : (0 : Int) ≤ (k : Int) := by omega
        have hsz := hB.size
        have hW2 : Ints wr WA wn ws := hWi.keep (by rw [hbase]; exact hB)
        have hP2 : Ints wr PA pn ps := hPi.keep (by rw [hbase]; exact hB)
        have e1 := hC.cs
        have e2 := hC.cw
        have e5 := hC.cp
        have e6 := hC.cu
        have e7 := hC.cf
        have e8 := hC.ch
        have z1 := hC.zs
        have z2 := hC.zu k hkn
        have hu := hC.at' k hkn
        have hul := hC.ul
        obtain ⟨b2, off2, y, rfl, hblt2, hy, hcy⟩ := hP2.at_ hkn
        have hyg : ps.getD k 0 = y := by rw [List.getD_eq_getElem?_getD, hy]; rfl
        obtain ⟨y0, y1⟩ := hps y (List.mem_of_getElem? hy)
        have hsucc := packK_succ ws ps h d us mm st k
        cases hh : hasI us k
        · rw [hh, if_neg (by simp)] at hsucc
          rw [hh] at hu
          obtain ⟨b, off, x, rfl, hblt, hx, hcx⟩ := hW2.at_ hqw
          have hxg : ws.getD us.length 0 = x := by rw [hql, List.getD_eq_getElem?_getD, hx]; rfl
          obtain ⟨x0, x1⟩ := hws x (List.mem_of_getElem? hx)
          have Hs := Lib.hid hsucc
          clear hsucc hy hx
          have mb1 := mulb (x := x) (y := y) (A := 10000) (B := 1000) (by omega) (by omega) (by omega) (by omega)
          have mb2 := mulb (x := x) (y := h) (A := 10000) (B := 1000) (by omega) (by omega) (by omega) (by omega)
          have me : x * (y - h) = x * y - x * h := Int.mul_sub _ _ _
          have mb3 : -10000000 ≤ x * (y - h) ∧ x * (y - h) ≤ 10000000 := by omega
          obtain ⟨mb4, mb5⟩ := mb3
          clear mb1 mb2 me
          have w1 : IntKind.i64.wrap (y - h) = y - h := IntWalk.i64_in _ (by omega)
          have w2 : IntKind.i64.wrap (x * (y - h)) = x * (y - h) := IntWalk.i64_in _ (by omega)
          have w3 : IntKind.i64.wrap (mm + x * (y - h)) = mm + x * (y - h) := IntWalk.i64_in _ (by omega)
          have HC := Lib.hid hC
          have HO := Lib.hid hO
          have hown := hO.own
          clear hC hO
          have n1 : ¬ ub = bs := D.s.2.2.2.2.2.2.2.symm
          have n2 : ¬ bs = ub := D.s.2.2.2.2.2.2.2
          have g1 : (wr.alloc (.cells #[.int .i64 (k : Int)] 2)).cell? ⟨bs, 0, none⟩ = some (.slice U q uc) := keepc ((Below.refl _ _).alloc (Nat.le_refl _) _) e1
          have g2 : (wr.alloc (.cells #[.int .i64 (k : Int)] 2)).cell? ⟨bu, 0, none⟩ = some (.slice (some ⟨ub, 0, none⟩) pn pn) := keepc ((Below.refl _ _).alloc (Nat.le_refl _) _) e6
          go_wp2_with fail
          go_region_law ((refine step_append_lies _ (by rfl) _ _ 24 (by rfl) base 2 i0 (.int .i64 0) 1 8 Try.underlying24 hi0 hz0 hz1 hz2 rfl (by decide) (.slice U q uc) q (us.map (Value.int .i64)) (by rfl) (by first | exact World.ownsRow.alloc hown _ | exact World.ownsRow.drew (World.ownsRow.alloc hown _)) ⟨wr.heap.size, 0, none⟩ 1 1 [.int .i64 (k : Int)] (by rfl) (by rfl) (by exact cell_one_new _ _ _) (ints_oneCell .i64 [(k : Int)]) (by decide) (by unfold maxLen; omega) (by omega) (by simp; omega) (wr.heap.size + 1) (by simp) ?_; intro gn cap w4 hown1 hgrow1 hat1 hlt1; have hC4 := clo_app HC.out HO.out hgrow1; have f1 := hC4.cs; have f2 := hC4.at' k hkn; have f3 := hC4.zs; have f4 := hC4.zu k hkn; have f5 := hC4.cu; rw [hh] at f2))
          all_goals
            have hC5 := (hC4.setU D k true (fun j => hasI (us ++ [(k : Int)]) j) (fun j _ => hasI_snoc us k j)).setS D (.slice (some ⟨gn, 0, none⟩) (q + 1) cap)
            have hO5 := clo_push (.bool true) (.slice (some ⟨gn, 0, none⟩) (q + 1) cap) HC.out HO.out hgrow1 hown1 hat1
            have hB5 := ((clo_below hB (by omega) HO.out hgrow1).setCell (p := ⟨ub, k, none⟩) l4 (.bool true)).setCell (p := ⟨bs, 0, none⟩) l1 (.slice (some ⟨gn, 0, none⟩) (q + 1) cap)
            clear hC4 hgrow1 hown1 hat1 hlt1 f1 f2 f3 f4 f5 g1 g2 HC HO hB hW2 hP2 e1 e2 e5 e6 e7 e8 z1 z2 hu hul hcx hcy hown
            generalize (w4.setCell ⟨ub, k, none⟩ (.bool true)).setCell ⟨bs, 0, none⟩ (.slice (some ⟨gn, 0, none⟩) (q + 1) cap) = w5 at *
            have e7 := hC5.cf
            unfold cloF at e7
            have e8 := hC5.ch
            have HC5 := Lib.hid hC5
            have HO5 := Lib.hid hO5
            clear hC5 hO5
            as_aux_lemma =>
            go_wp2_with fail
            refine (ih (us ++ [(k : Int)]) (mm + x * (y - h)) w5 (packK ws ps h d us mm st k) (some ⟨gn, 0, none⟩) BA (q + 1) cap bn bc (by simp; omega) HC5.out HO5.out hB5 (by simp; omega) (by simp; omega)).mono ?_
            rintro e w6 ⟨rfl, hB6, U6, BA6, uc6, bn6, bc6, hC6, hO6⟩
            obtain ⟨g6, rfl, hcap, hO7⟩ := hO6.pop
            have e1 := hC6.cs
            have e6 := hC6.cu
            have z1 := hC6.zs
            have z2 := hC6.zu k hkn
            have hu := hC6.at' k hkn
            have hc1 : (q : Int) ≤ (uc6 : Int) := by omega
            have hq3 : IntKind.i64.wrap (q : Int) = (q : Int) := IntWalk.i64_in _ (by omega)
            have HC6 := Lib.hid hC6
            have HO7 := Lib.hid hO7
            clear hC6 hO6 hO7
            go_wp2_with fail
            have n1 : ¬ ub = bs := D.s.2.2.2.2.2.2.2.symm
            have n2 : ¬ bs = ub := D.s.2.2.2.2.2.2.2
            have n3 : ¬ ub = bu := D.u.2.2.1
            have hB8 := ((Below.drew hB6).setCell (p := ⟨ub, k, none⟩) l4 (.bool false)).setCell (p := ⟨bs, 0, none⟩) l1 (.slice (some ⟨g6, 0, none⟩) q uc6)
            go_region
            all_goals
              have hC7 := ((HC6.out.keep (drew_below1 _)).setU D k false (fun j => hasI us j) (fun j _ => hasI_drop us k j hh)).setS D (.slice (some ⟨g6, 0, none⟩) q uc6)
              have hO8 := ((HO7.out.keep (drew_below1 _)).set ub k (.bool false) (fun k => k.2.2.2.2.2.2.2.2 rfl)).set bs 0 (.slice (some ⟨g6, 0, none⟩) q uc6) (fun k => k.1 rfl)
              have HC7 := Lib.hid hC7
              have HO8 := Lib.hid hO8
              clear hC7 hO8
              go_wp2
              go_roundw
              case rel =>
                have e9 := Hs.out
                rw [hxg, hyg] at e9
                refine ⟨k + 1, by omega, by go_num, hB8, _, _, _, _, _, by rw [e9]; exact HC7.out, by rw [e9]; exact HO8.out⟩
              case measure => simp [intOf]; omega
        · rw [hh, if_pos rfl] at hsucc
          rw [hh] at hu
          have Hs := Lib.hid hsucc
          have HC := Lib.hid hC
          have HO := Lib.hid hO
          go_wp2
          go_roundw
          case rel => exact ⟨k + 1, by omega, by go_num, hB, _, _, _, _, _, by rw [Hs.out]; exact HC.out, by rw [Hs.out]; exact HO.out⟩
          case measure => simp [intOf]; omega
      · obtain rfl : k = pn := by omega
        go_wp2
        go_end0
        have e9 : packF ws ps h (d + 1) us mm st = packK ws ps h d us mm st k := by rw [hpf.out, hpl]
        rw [e9]
        exact ⟨rfl, hB, _, _, _, _, _, hC, hO⟩
end Go.Proofs.Ytkkipkmjhakknaa
