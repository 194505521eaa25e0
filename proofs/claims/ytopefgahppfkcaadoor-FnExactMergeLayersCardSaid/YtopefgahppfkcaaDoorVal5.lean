/- ValidBasket: the program's; the law. -/
import Derived.Test.YtopefgahppfkcaaDoorVal4
namespace Go.Proofs.YtopefgahppfkcaaDoor
open Go.RowKit
set_option linter.unusedVariables false
set_option linter.unusedSimpArgs false

theorem okBas_st0 {st : Int} {cs : List R2} {b : ByteArray} (h0 : st = 0) (h : cs.length = 0) : okBas st cs b = decide (b.size = 0) := by
  subst h0
  rw [okBas_zero, List.eq_nil_of_length_eq_zero h]; rfl
theorem specValidBasket_any (st : Int) (A : Option Addr) (n c : Nat) (b : ByteArray) (cs : List R2) (w : World) (h : Recs w A n cs) (hs : ∀ x ∈ cs, x.1.size ≤ maxLen) (hn : n ≤ 1048576) (hb : b.size ≤ maxLen) : Calls Tryd.prog 12 #[bval st A n c b] w (OkPost (okBas st cs b) w) := by
  have HS := Box0.mk hs
  clear hs
  go_enter Tryd.func12, Tryd.ntmps12
  go_wp2_with fail
  refine (l17Ok_any _ st A n c b cs _ (C3.new w _ _ _ _) (h.alloc _) HS.out hn hb).mono ?_
  rintro e w1 ⟨rfl, hb1⟩
  go_wp2_with fail
  go_ret
  exact ⟨rfl, blaylow hb1⟩
theorem okBas_z {cs : List R2} {b : ByteArray} {n : Nat} (hl : cs.length = n) (h : n = 0) : okBas 0 cs b = decide (b.size = 0) := okBas_st0 rfl (by omega)
set_option maxRecDepth 100000 in
set_option maxHeartbeats 2000000 in
theorem implValid_zero (st : Int) (A : Option Addr) (n c : Nat) (b : ByteArray) (cs : List R2) (w : World) (h : Recs w A n cs) (hs : ∀ x ∈ cs, x.1.size ≤ maxLen) (hn : n ≤ 1048576) (hb : b.size ≤ maxLen) (s0 : st = 0) : Calls Tryd.prog 14 #[bval st A n c b] w (OkPost (okBas st cs b) w) := by
  have HS := Box0.mk hs
  have HL := Lib.hid h.1
  clear hs
  have he := bEmp b
  have hX0 := C3.new w (.int .i64 st) (.slice A n c) (.string b) 35
  have hBx : Below w.heap.size w (w.alloc (.cells #[.int .i64 st, .slice A n c, .string b] 35)) := by go_grown
  have hK0 := Bk.new (w.alloc (.cells #[.int .i64 st, .slice A n c, .string b] 35))
  rw [World.size_alloc] at hK0
  subst s0
  go_enter Tryd.func14, Tryd.ntmps14
  go_wp2_with fail
  have hB1 : Below w.heap.size w ((w.alloc (.cells #[.int .i64 0, .slice A n c, .string b] 35)).alloc (.cells #[.int .i64 0, .slice none 0 0, .string ⟨#[]⟩] 35)) := by go_grown
  have hX1 := hX0.alloc (.cells #[.int .i64 0, .slice none 0 0, .string ⟨#[]⟩] 35)
  have hK1 := hK0
  have hsz2 : w.heap.size + 1 ≤ ((w.alloc (.cells #[.int .i64 0, .slice A n c, .string b] 35)).alloc (.cells #[.int .i64 0, .slice none 0 0, .string ⟨#[]⟩] 35)).heap.size := by simp
  generalize hW : (w.alloc (.cells #[.int .i64 0, .slice A n c, .string b] 35)).alloc (.cells #[.int .i64 0, .slice none 0 0, .string ⟨#[]⟩] 35) = W at *
  clear hW
  have hsz1 := hB1.size
  obtain ⟨c0, c1, c2⟩ := id hX1
  go_wp2_with fail
  go_loopw [19] (fun i wr => ∃ k : Nat, k ≤ n ∧ k ≤ 40 ∧ i = .int .i64 k ∧ Box0 (LayTill cs k) ∧ Box0 ((0 : Int) = 0 → k = 0) ∧ Box0 (Bk wr (w.heap.size + 1) (w.heap.size + 1) 0 k) ∧ C3 wr w.heap.size (.int .i64 0) (.slice A n c) (.string b) ∧ w.heap.size + 1 ≤ wr.heap.size ∧ Below w.heap.size w wr) (fun i _ => n - (intOf i).toNat)
  case atStart => exact ⟨0, Nat.zero_le _, by omega, rfl, ⟨fun _ _ h => absurd h (by omega)⟩, ⟨fun _ => rfl⟩, ⟨hK1⟩, hX1, hsz2, hB1⟩
  case round =>
  clear c0 c1 c2 hK1 hB1 hX1 hX0 hK0 hBx hsz1 hsz2
  obtain ⟨k, hk, k40, rfl, hT, hZ, hK, hX, hsz, hB⟩ := hrel
  obtain ⟨c0, c1, c2⟩ := id hX
  by_cases hlt : k < n
  · obtain ⟨a, off, x, hA, hblt, hx, hc0, hc1⟩ := (h.keep hB).at_ hlt
    subst hA
    have Hx := Lib.hid hx
    have hxs := HS.out x (List.mem_of_getElem? hx)
    clear hx
    have hBl : Below wr.heap.size wr (wr.alloc (.cells #[.string x.1, .int .i64 x.2] 56)) := by go_grown
    have hK' := Box0.mk (hK.out.keep hBl)
    have hX' := hX.keep hBl
    have hsz' : w.heap.size + 1 ≤ (wr.alloc (.cells #[.string x.1, .int .i64 x.2] 56)).heap.size := by simp; omega
    have hB' := belowT hBl hB
    by_cases hno : okLay x = false ∨ (0 : Int) = 0 ∨ k = 40
    · have HV := Lib.hid (okBas_bad (b := b) Hx.out k40 hno)
      have HN := Lib.hid hno
      clear hno
      go_wp2_with fail
      refine (addLayer_no _ _ _ _ x _ hK'.out hxs hsz' (by first | exact HN.out | exact .inr (.inl rfl)) k40).mono ?_
      rintro e w2 ⟨v, rfl, hv, hb2⟩
      have tv : (v != 0) = true := by simpa using hv
      clear hv
      go_wp2_with fail
      go_ret
      exact ⟨by rw [HV.out]; rfl, belowT hb2 hB'⟩
    · have hlay : okLay x = true := by cases h : okLay x; exact absurd (.inl h) hno; rfl
      have hs0 : (0 : Int) ≠ 0 := fun e => hno (.inr (.inl e))
      have k39 : k < 40 := by rcases Nat.lt_or_ge k 40 with h | h; exact h; exact absurd (.inr (.inr (by omega))) hno
      have HT := Box0.mk (layTill_succ hT.out Hx.out hlay)
      have HS0 := Lib.hid hs0
      clear hno hs0
      go_wp2_with fail
      refine (addLayer_yes _ _ _ _ x _ hK'.out hxs hsz' hlay HS0.out k39).mono ?_
      rintro e w2 ⟨rfl, hK2, hb2⟩
      have hX2 : C3 w2 w.heap.size (.int .i64 0) (.slice (some ⟨a, off, none⟩) n c) (.string b) := ⟨(hb2.cell (p := ⟨w.heap.size, 0, none⟩) (by simp)).trans hX'.c0, (hb2.cell (p := ⟨w.heap.size, 1, none⟩) (by simp)).trans hX'.c1, (hb2.cell (p := ⟨w.heap.size, 2, none⟩) (by simp)).trans hX'.c2⟩
      go_wp2_with fail
      go_roundw
      case rel => exact ⟨k + 1, by omega, by omega, by go_num, HT, (by first | exact ⟨fun e => absurd e HS0.out⟩ | exact absurd rfl HS0.out), ⟨hK2⟩, hX2, by have := hb2.size; omega, hB'.trans (hb2.mono (by omega))⟩
      case measure => simp [intOf]; omega
  obtain rfl : k = n := by omega
  cases hbz : decide (b.size = 0)
  case true =>
    rw [hbz] at he
    have HW := Lib.hid (show okBas 0 cs b = true by rw [okBas_z HL.out (hZ.out rfl), hbz]; try rfl)
    clear hbz
    go_wp2_with fail
    go_ret
    exact ⟨by rw [HW.out]; rfl, hB⟩
  rw [hbz] at he
  have HW := Lib.hid (show okBas 0 cs b = false by rw [okBas_z HL.out (hZ.out rfl), hbz])
  clear hbz
  go_wp2_with fail
  refine (setBorder_no _ _ _ _ b _ hK.out hb (.inl rfl) (.inl rfl)).mono ?_
  rintro e w2 ⟨v, rfl, hv, hb2⟩
  have tv : (v == 0) = false := by simpa using hv
  clear hv
  go_wp2_with fail
  go_ret
  exact ⟨by rw [HW.out]; rfl, belowT hb2 hB⟩
set_option maxRecDepth 100000 in
set_option maxHeartbeats 2000000 in
theorem implValid_pos (st : Int) (A : Option Addr) (n c : Nat) (b : ByteArray) (cs : List R2) (w : World) (h : Recs w A n cs) (hs : ∀ x ∈ cs, x.1.size ≤ maxLen) (hn : n ≤ 1048576) (hb : b.size ≤ maxLen) (s3 : 3 ≤ st) (s60 : st ≤ 60) : Calls Tryd.prog 14 #[bval st A n c b] w (OkPost (okBas st cs b) w) := by
  have HS := Box0.mk hs
  have HL := Lib.hid h.1
  clear hs
  have he := bEmp b
  have hX0 := C3.new w (.int .i64 st) (.slice A n c) (.string b) 35
  have hBx : Below w.heap.size w (w.alloc (.cells #[.int .i64 st, .slice A n c, .string b] 35)) := by go_grown
  have hK0 := Bk.new (w.alloc (.cells #[.int .i64 st, .slice A n c, .string b] 35))
  rw [World.size_alloc] at hK0
  have t0 : (st != 0) = true := by rw [bne_iff_ne]; omega
  have hst : inB st 3 60 = true := (inB_iff _ _ _).2 ⟨s3, s60⟩
  have hS0 := Lib.hid (show st ≠ 0 by omega)
  go_enter Tryd.func14, Tryd.ntmps14
  go_wp2_with fail
  refine (setStakes_yes _ _ _ _ _ hK0 hst).mono ?_
  rintro e W ⟨rfl, hK1, hb1⟩
  have hB1 : Below w.heap.size w W := Below.trans (by go_grown) (hb1.mono (by omega))
  have hX1 : C3 W w.heap.size (.int .i64 st) (.slice A n c) (.string b) := by
    have hx := hX0.alloc (.cells #[.int .i64 0, .slice none 0 0, .string ⟨#[]⟩] 35)
    exact ⟨(hb1.cell (p := ⟨w.heap.size, 0, none⟩) (by simp)).trans hx.c0, (hb1.cell (p := ⟨w.heap.size, 1, none⟩) (by simp)).trans hx.c1, (hb1.cell (p := ⟨w.heap.size, 2, none⟩) (by simp)).trans hx.c2⟩
  have hsz2 : w.heap.size + 1 ≤ W.heap.size := by have := hb1.size; simp at this; omega
  clear hb1
  have hsz1 := hB1.size
  obtain ⟨c0, c1, c2⟩ := id hX1
  go_wp2_with fail
  go_loopw [19] (fun i wr => ∃ k : Nat, k ≤ n ∧ k ≤ 40 ∧ i = .int .i64 k ∧ Box0 (LayTill cs k) ∧ Box0 ((st : Int) = 0 → k = 0) ∧ Box0 (Bk wr (w.heap.size + 1) (w.heap.size + 1) st k) ∧ C3 wr w.heap.size (.int .i64 st) (.slice A n c) (.string b) ∧ w.heap.size + 1 ≤ wr.heap.size ∧ Below w.heap.size w wr) (fun i _ => n - (intOf i).toNat)
  case atStart => exact ⟨0, Nat.zero_le _, by omega, rfl, ⟨fun _ _ h => absurd h (by omega)⟩, ⟨fun _ => rfl⟩, ⟨hK1⟩, hX1, hsz2, hB1⟩
  case round =>
  clear c0 c1 c2 hK1 hB1 hX1 hX0 hK0 hBx hsz1 hsz2
  obtain ⟨k, hk, k40, rfl, hT, hZ, hK, hX, hsz, hB⟩ := hrel
  obtain ⟨c0, c1, c2⟩ := id hX
  by_cases hlt : k < n
  · obtain ⟨a, off, x, hA, hblt, hx, hc0, hc1⟩ := (h.keep hB).at_ hlt
    subst hA
    have Hx := Lib.hid hx
    have hxs := HS.out x (List.mem_of_getElem? hx)
    clear hx
    have hBl : Below wr.heap.size wr (wr.alloc (.cells #[.string x.1, .int .i64 x.2] 56)) := by go_grown
    have hK' := Box0.mk (hK.out.keep hBl)
    have hX' := hX.keep hBl
    have hsz' : w.heap.size + 1 ≤ (wr.alloc (.cells #[.string x.1, .int .i64 x.2] 56)).heap.size := by simp; omega
    have hB' := belowT hBl hB
    by_cases hno : okLay x = false ∨ (st : Int) = 0 ∨ k = 40
    · have HV := Lib.hid (okBas_bad (b := b) Hx.out k40 hno)
      have HN := Lib.hid hno
      clear hno
      go_wp2_with fail
      refine (addLayer_no _ _ _ _ x _ hK'.out hxs hsz' (by first | exact HN.out | exact .inr (.inl rfl)) k40).mono ?_
      rintro e w2 ⟨v, rfl, hv, hb2⟩
      have tv : (v != 0) = true := by simpa using hv
      clear hv
      go_wp2_with fail
      go_ret
      exact ⟨by rw [HV.out]; rfl, belowT hb2 hB'⟩
    · have hlay : okLay x = true := by cases h : okLay x; exact absurd (.inl h) hno; rfl
      have hs0 : (st : Int) ≠ 0 := fun e => hno (.inr (.inl e))
      have k39 : k < 40 := by rcases Nat.lt_or_ge k 40 with h | h; exact h; exact absurd (.inr (.inr (by omega))) hno
      have HT := Box0.mk (layTill_succ hT.out Hx.out hlay)
      have HS0 := Lib.hid hs0
      clear hno hs0
      go_wp2_with fail
      refine (addLayer_yes _ _ _ _ x _ hK'.out hxs hsz' hlay HS0.out k39).mono ?_
      rintro e w2 ⟨rfl, hK2, hb2⟩
      have hX2 : C3 w2 w.heap.size (.int .i64 st) (.slice (some ⟨a, off, none⟩) n c) (.string b) := ⟨(hb2.cell (p := ⟨w.heap.size, 0, none⟩) (by simp)).trans hX'.c0, (hb2.cell (p := ⟨w.heap.size, 1, none⟩) (by simp)).trans hX'.c1, (hb2.cell (p := ⟨w.heap.size, 2, none⟩) (by simp)).trans hX'.c2⟩
      go_wp2_with fail
      go_roundw
      case rel => exact ⟨k + 1, by omega, by omega, by go_num, HT, (by first | exact ⟨fun e => absurd e HS0.out⟩ | exact absurd rfl HS0.out), ⟨hK2⟩, hX2, by have := hb2.size; omega, hB'.trans (hb2.mono (by omega))⟩
      case measure => simp [intOf]; omega
  obtain rfl : k = n := by omega
  cases hbz : decide (b.size = 0)
  case true =>
    rw [hbz] at he
    have HW := Lib.hid (show okBas st cs b = true by rw [okBas_end HL.out hT.out k40 hS0.out hst, hbz]; try rfl)
    clear hbz
    go_wp2_with fail
    go_ret
    exact ⟨by rw [HW.out]; rfl, hB⟩
  rw [hbz] at he
  cases hbo : okBord st b
  · have HW := Lib.hid (show okBas st cs b = false by rw [okBas_end HL.out hT.out k40 hS0.out hst, hbz, hbo]; rfl)
    clear hbz
    go_wp2_with fail
    refine (setBorder_no _ _ _ _ b _ hK.out hb (.inr ⟨s3, s60⟩) (.inr hbo)).mono ?_
    rintro e w2 ⟨v, rfl, hv, hb2⟩
    have tv : (v == 0) = false := by simpa using hv
    clear hv
    go_wp2_with fail
    go_ret
    exact ⟨by rw [HW.out]; rfl, belowT hb2 hB⟩
  · have HW := Lib.hid (show okBas st cs b = true by rw [okBas_end HL.out hT.out k40 hS0.out hst, hbz, hbo]; rfl)
    clear hbz
    go_wp2_with fail
    refine (setBorder_yes _ _ _ _ b _ hK.out hb hsz s3 s60 hbo).mono ?_
    rintro e w2 ⟨rfl, hb2⟩
    go_wp2_with fail
    go_ret
    exact ⟨by rw [HW.out]; rfl, hB.trans (hb2.mono (by omega))⟩
theorem implValidBasket_any (st : Int) (A : Option Addr) (n c : Nat) (b : ByteArray) (cs : List R2) (w : World) (h : Recs w A n cs) (hs : ∀ x ∈ cs, x.1.size ≤ maxLen) (hn : n ≤ 1048576) (hb : b.size ≤ maxLen) : Calls Tryd.prog 14 #[bval st A n c b] w (OkPost (okBas st cs b) w) := by
  by_cases s0 : st = 0
  · exact implValid_zero st A n c b cs w h hs hn hb s0
  cases hst : inB st 3 60
  · have HV := Lib.hid (okBas_st (cs := cs) (b := b) s0 hst)
    have hK0 := Bk.new (w.alloc (.cells #[.int .i64 st, .slice A n c, .string b] 35))
    rw [World.size_alloc] at hK0
    rw [HV.out]
    have t0 : (st != 0) = true := by simpa using s0
    clear HV s0
    go_enter Tryd.func14, Tryd.ntmps14
    go_wp2_with fail
    refine (setStakes_no _ _ _ _ _ hK0 hst).mono ?_
    rintro e w1 ⟨v, rfl, hv, hb1⟩
    have tv : (v != 0) = true := by simpa using hv
    clear hv
    go_wp2_with fail
    go_ret
    exact ⟨rfl, blaylow (blaylow hb1)⟩
  · obtain ⟨s3, s60⟩ := (inB_iff _ _ _).1 hst
    exact implValid_pos st A n c b cs w h hs hn hb s3 s60
end Go.Proofs.YtopefgahppfkcaaDoor
