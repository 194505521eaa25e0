/- ValidBasket: both. -/
import Derived.Test.YtopefgahppfkcaaDoorVal3
namespace Go.Proofs.YtopefgahppfkcaaDoor
open Go.RowKit
set_option linter.unusedVariables false
set_option linter.unusedSimpArgs false

def okBas (st : Int) (cs : List R2) (b : ByteArray) : Bool :=
  if st = 0 then decide (cs = []) && decide (b.size = 0) else inB st 3 60 && (cs.all okLay && (decide (cs.length ≤ 40) && (decide (b.size = 0) || okBord st b)))
def LayTill (cs : List R2) (k : Nat) : Prop := ∀ j x, j < k → cs[j]? = some x → okLay x = true
theorem layTill_succ {cs : List R2} {k : Nat} {x : R2} (h : LayTill cs k) (hx : cs[k]? = some x) (ho : okLay x = true) : LayTill cs (k + 1) := fun j y hj hy => by
  rcases Nat.lt_succ_iff_lt_or_eq.1 hj with h1 | rfl
  · exact h j y h1 hy
  · rw [hx] at hy; injection hy with hy; subst hy; exact ho
theorem okBas_bad {st : Int} {cs : List R2} {b : ByteArray} {k : Nat} {x : R2} (hx : cs[k]? = some x) (hk : k ≤ 40) (hno : okLay x = false ∨ st = 0 ∨ k = 40) : okBas st cs b = false := by
  have hlt := (List.getElem?_eq_some_iff.1 hx).1
  unfold okBas
  by_cases h0 : st = 0
  · rw [if_pos h0]
    have : cs ≠ [] := fun e => by subst e; simp at hlt
    simp [this]
  · rw [if_neg h0]
    rcases hno with h1 | h1 | h1
    · have : cs.all okLay = false := by rw [List.all_eq_false]; exact ⟨x, List.mem_of_getElem? hx, by simpa using h1⟩
      rw [this]; simp
    · exact absurd h1 h0
    · have : decide (cs.length ≤ 40) = false := decide_eq_false (by omega)
      rw [this]; simp
theorem okBas_st {st : Int} {cs : List R2} {b : ByteArray} (h0 : st ≠ 0) (h : inB st 3 60 = false) : okBas st cs b = false := by unfold okBas; rw [if_neg h0, h]; rfl
theorem okBas_zero {cs : List R2} {b : ByteArray} : okBas 0 cs b = (decide (cs = []) && decide (b.size = 0)) := rfl
theorem okBas_end {st : Int} {cs : List R2} {b : ByteArray} {n : Nat} (hl : cs.length = n) (h : LayTill cs n) (hn : n ≤ 40) (h0 : st ≠ 0) (hs : inB st 3 60 = true) : okBas st cs b = (decide (b.size = 0) || okBord st b) := by
  unfold okBas
  have h1 : cs.all okLay = true := List.all_eq_true.2 fun x hx => by
    obtain ⟨j, hj, rfl⟩ := List.mem_iff_getElem.1 hx
    exact h j _ (by omega) (List.getElem?_eq_getElem hj)
  rw [if_neg h0, hs, h1, decide_eq_true (show cs.length ≤ 40 by omega)]; rfl
theorem bEmp (b : ByteArray) : b.toList.isEmpty = decide (b.size = 0) := by
  rw [ByteArray.toList_eq, Bool.eq_iff_iff, decide_eq_true_iff, List.isEmpty_iff]
  constructor
  · intro h; have := congrArg List.length h; simpa using this
  · intro h; exact List.eq_nil_of_length_eq_zero (by simpa using h)
def OkPost (v : Bool) (w : World) (e : Ending) (w' : World) : Prop := e = .returned (.bool v) ∧ Below w.heap.size w w'
set_option maxRecDepth 100000 in
set_option maxHeartbeats 2000000 in
theorem l17Ok_any (q : Nat) (st : Int) (A : Option Addr) (n c : Nat) (b : ByteArray) (cs : List R2) (w : World) (hX : C3 w q (.int .i64 st) (.slice A n c) (.string b)) (h : Recs w A n cs) (hs : ∀ x ∈ cs, x.1.size ≤ maxLen) (hn : n ≤ 1048576) (hb : b.size ≤ maxLen) : Calls Tryd.prog 29 #[.pointer (some ⟨q, 0, none⟩)] w (OkPost (okBas st cs b) w) := by
  have HS := Box0.mk hs
  have HL := Lib.hid h.1
  clear hs
  have he := bEmp b
  have hB0 : Below w.heap.size w (w.alloc (.cells #[.int .i64 0, .slice none 0 0, .string ⟨#[]⟩] 35)) := by go_grown
  have hX0 := hX.keep hB0
  have hK0 := Bk.new w
  have h0 := h.keep hB0
  have hql := hX.lt
  by_cases s0 : st = 0
  · subst s0
    obtain ⟨c0, c1, c2⟩ := id hX
    clear hX0 hK0 h0
    by_cases hn0 : n = 0
    · subst hn0
      have hcs : cs = [] := List.eq_nil_of_length_eq_zero h.1
      subst hcs
      cases hbz : decide (b.size = 0)
      all_goals
        rw [hbz] at he
        have HV := Lib.hid (show okBas 0 [] b = _ by rw [okBas_zero, hbz]; try rfl)
        rw [HV.out]
        clear HV hbz
        go_enter Tryd.func29, Tryd.ntmps29
        go_wp2_with fail
        go_ret
        exact ⟨rfl, hB0⟩
    · have hcs : cs ≠ [] := fun e => by subst e; exact hn0 (by rw [← h.1]; rfl)
      have t0 : ((n : Int) == 0) = false := by rw [beq_eq_false_iff_ne]; omega
      have HV := Lib.hid (show okBas 0 cs b = false by rw [okBas_zero, decide_eq_false hcs]; rfl)
      rw [HV.out]
      clear HV hcs hn0
      go_enter Tryd.func29, Tryd.ntmps29
      go_wp2_with fail
      go_ret
      exact ⟨rfl, hB0⟩
  have t0 : (st == 0) = false := by simpa using s0
  obtain ⟨c0, c1, c2⟩ := id hX
  cases hst : inB st 3 60
  · have HV := Lib.hid (okBas_st (cs := cs) (b := b) s0 hst)
    rw [HV.out]
    clear HV s0
    go_enter Tryd.func29, Tryd.ntmps29
    go_wp2_with fail
    refine (l17Stakes_no _ _ _ _ _ hK0 hst).mono ?_
    rintro e w1 ⟨v, rfl, hv, hb1⟩
    have tv : (v != 0) = true := by simpa using hv
    clear hv
    go_wp2_with fail
    go_ret
    exact ⟨rfl, belowT hb1 hB0⟩
  obtain ⟨s3, s60⟩ := (inB_iff _ _ _).1 hst
  have HS0 := Lib.hid s0
  clear s0
  go_enter Tryd.func29, Tryd.ntmps29
  go_wp2_with fail
  refine (l17Stakes_yes _ _ _ _ _ hK0 hst).mono ?_
  rintro e w1 ⟨rfl, hK1, hb1⟩
  have hB1 : Below w.heap.size w w1 := hB0.trans hb1
  clear c0 c1 c2
  obtain ⟨c0, c1, c2⟩ := hX.keep hB1
  go_wp2_with fail
  go_loopw [4] (fun i wr => ∃ k : Nat, k ≤ n ∧ k ≤ 40 ∧ i = .int .i64 k ∧ Box0 (LayTill cs k) ∧ Box0 (Bk wr w.heap.size w.heap.size st k) ∧ Below w.heap.size w wr) (fun i _ => n - (intOf i).toNat)
  case atStart => exact ⟨0, Nat.zero_le _, by omega, rfl, ⟨fun _ _ h => absurd h (by omega)⟩, ⟨hK1⟩, hB1⟩
  case round =>
  clear c0 c1 c2 hK1 hB1 hb1
  obtain ⟨k, hk, k40, rfl, hT, hK, hB⟩ := hrel
  obtain ⟨c0, c1, c2⟩ := hX.keep hB
  have hsz := hB.size
  by_cases hlt : k < n
  · obtain ⟨a, off, x, hA, hblt, hx, hc0, hc1⟩ := (h.keep hB).at_ hlt
    subst hA
    have Hx := Lib.hid hx
    have hxs := HS.out x (List.mem_of_getElem? hx)
    clear hx
    by_cases hno : okLay x = false ∨ st = 0 ∨ k = 40
    · have HV := Lib.hid (okBas_bad (b := b) Hx.out k40 hno)
      have HN := Box0.mk hno
      clear hno
      go_wp2_with fail
      refine (l17Layer_no _ _ _ _ x _ hK.out hxs hsz HN.out k40).mono ?_
      rintro e w2 ⟨v, rfl, hv, hb2⟩
      have tv : (v != 0) = true := by simpa using hv
      clear hv
      go_wp2_with fail
      go_ret
      exact ⟨by rw [HV.out]; rfl, belowT hb2 hB⟩
    · have hlay : okLay x = true := by cases h : okLay x; exact absurd (.inl h) hno; rfl
      have k39 : k < 40 := by rcases Nat.lt_or_ge k 40 with h | h; exact h; exact absurd (.inr (.inr (by omega))) hno
      have HT := Box0.mk (layTill_succ hT.out Hx.out hlay)
      clear hno
      go_wp2_with fail
      refine (l17Layer_yes _ _ _ _ x _ hK.out hxs hsz hlay HS0.out k39).mono ?_
      rintro e w2 ⟨rfl, hK2, hb2⟩
      go_wp2_with fail
      go_roundw
      case rel => exact ⟨k + 1, by omega, by omega, by go_num, HT, ⟨hK2⟩, hB.trans hb2⟩
      case measure => simp [intOf]; omega
  · obtain rfl : k = n := by omega
    have HV := Lib.hid (okBas_end (b := b) HL.out hT.out k40 HS0.out hst)
    cases hbz : decide (b.size = 0)
    · rw [hbz] at he
      cases hbo : okBord st b
      · have HW := Lib.hid (show okBas st cs b = false by rw [HV.out, hbz, hbo]; rfl)
        go_wp2_with fail
        refine (l17Border_no _ _ _ _ b _ hK.out hb (.inr ⟨s3, s60⟩) (.inr hbo)).mono ?_
        rintro e w2 ⟨v, rfl, hv, hb2⟩
        have tv : (v == 0) = false := by simpa using hv
        clear hv
        go_wp2_with fail
        go_ret
        exact ⟨by rw [HW.out]; rfl, belowT hb2 hB⟩
      · have HW := Lib.hid (show okBas st cs b = true by rw [HV.out, hbz, hbo]; rfl)
        go_wp2_with fail
        refine (l17Border_yes _ _ _ _ b _ hK.out hb hsz s3 s60 hbo).mono ?_
        rintro e w2 ⟨rfl, hb2⟩
        go_wp2_with fail
        go_ret
        exact ⟨by rw [HW.out]; rfl, hB.trans hb2⟩
    · rw [hbz] at he
      have HW := Lib.hid (show okBas st cs b = true by rw [HV.out, hbz]; rfl)
      clear hbz
      go_wp2_with fail
      go_ret
      exact ⟨by rw [HW.out]; rfl, hB⟩
end Go.Proofs.YtopefgahppfkcaaDoor
