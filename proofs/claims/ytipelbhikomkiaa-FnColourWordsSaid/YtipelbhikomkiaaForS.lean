/- ShortestWord: contracts and law. -/
import Derived.Test.YtipelbhikomkiaaForL
namespace Go.Proofs.Ytipelbhikomkiaa
open Go.RowKit
set_option linter.unusedVariables false
set_option linter.unusedSimpArgs false

def swF (ss : List ByteArray) : Nat → Nat → ByteArray × Int
  | 0, _ => (⟨#[]⟩, 3)
  | f + 1, l => if (forV ss l).2 then ((forV ss l).1, 0) else swF ss f (l + 1)
def swV (ss : List ByteArray) : ByteArray × Int := if rowsB ss then swF ss 12 1 else (⟨#[]⟩, 1)
theorem swF_yes {ss : List ByteArray} {f l : Nat} (h : (forV ss l).2 = true) : swF ss (f + 1) l = ((forV ss l).1, 0) := by rw [swF, if_pos h]
theorem swF_no {ss : List ByteArray} {f l : Nat} (h : (forV ss l).2 = false) : swF ss (f + 1) l = swF ss f (l + 1) := by rw [swF, if_neg (by simp [h])]
def SwPost (ss : List ByteArray) (w : World) (e : Ending) (w' : World) : Prop := e = .returned (.tuple #[.string (swV ss).1, .int .i64 (swV ss).2]) ∧ Below w.heap.size w w'
theorem specShortestWord_any (A : Option Addr) (n c : Nat) (ss : List ByteArray) (w : World) (h : Strs w A n ss) (hn : n ≤ 1048576) (hsz : ∀ s ∈ ss, s.size ≤ maxLen) : Calls Try.prog 32 #[.slice A n c] w (SwPost ss w) := by
  have HS := Box0.mk hsz
  clear hsz
  cases hr : rowsB ss
  · have HV := Lib.hid (show swV ss = (⟨#[]⟩, 1) by simp [swV, hr])
    go_enter Try.func32, Try.ntmps32
    go_wp2_with fail
    refine (l12Rows_b _ _ _ _ false _ h hn HS.out hr).mono ?_
    rintro e w1 ⟨rfl, hb⟩
    go_wp2_with fail
    go_ret2
    exact ⟨by rw [HV.out]; rfl, hb⟩
  have HV := Lib.hid (show swV ss = swF ss 12 1 by simp [swV, hr])
  go_enter Try.func32, Try.ntmps32
  go_wp2_with fail
  refine (l12Rows_b _ _ _ _ true _ h hn HS.out hr).mono ?_
  rintro e w1 ⟨rfl, hb⟩
  go_wp2_with fail
  go_loopw [4] (fun i wr => ∃ l f : Nat, 1 ≤ l ∧ l + f = 13 ∧ i = .int .i64 l ∧ Box0 (swF ss f l = swF ss 12 1) ∧ Below w.heap.size w wr) (fun i _ => 13 - (intOf i).toNat)
  case atStart => exact ⟨1, 12, Nat.le_refl _, rfl, rfl, ⟨rfl⟩, hb⟩
  case round =>
    clear hb
    obtain ⟨l, f, l1, hl, rfl, HW, hB⟩ := hrel
    by_cases hlt : l ≤ 12
    · obtain ⟨f, rfl⟩ : ∃ g, f = g + 1 := ⟨f - 1, by omega⟩
      have HF := Box0.mk (show ∀ v, (forV ss l).2 = v → forV ss l = ((forV ss l).1, v) from fun v hv => by rw [← hv])
      cases hf : (forV ss l).2
      · have Hf := Box0.mk (HF.out _ hf)
        have HW1 : Box0 (swF ss f (l + 1) = swF ss 12 1) := ⟨by rw [← HW.out, swF_no hf]⟩
        clear hf
        go_wp2_with fail
        refine (l12For_any _ _ _ _ _ _ (h.keep hB) hr (by omega) (by omega)).mono ?_
        rintro e w2 ⟨he, hb2⟩
        rw [Hf.out] at he
        subst he
        go_wp2_with fail
        go_roundw
        case rel => exact ⟨l + 1, f, by omega, by omega, by go_num, HW1, belowT hb2 hB⟩
        case measure => simp [intOf]; omega
      · have Hf := Box0.mk (HF.out _ hf)
        have HW1 : Box0 (swV ss = ((forV ss l).1, 0)) := ⟨by rw [HV.out, ← HW.out, swF_yes hf]⟩
        clear hf
        go_wp2_with fail
        refine (l12For_any _ _ _ _ _ _ (h.keep hB) hr (by omega) (by omega)).mono ?_
        rintro e w2 ⟨he, hb2⟩
        rw [Hf.out] at he
        subst he
        go_wp2_with fail
        go_ret2
        exact ⟨by rw [HW1.out]; rfl, belowT hb2 hB⟩
    · obtain rfl : f = 0 := by omega
      have HW1 : Box0 (swV ss = (⟨#[]⟩, 3)) := ⟨by rw [HV.out, ← HW.out]; rfl⟩
      go_wp2_with fail
      go_ret2
      exact ⟨by rw [HW1.out]; rfl, hB⟩
theorem implShortestWord_any (A : Option Addr) (n c : Nat) (ss : List ByteArray) (w : World) (h : Strs w A n ss) (hn : n ≤ 1048576) (hsz : ∀ s ∈ ss, s.size ≤ maxLen) : Calls Try.prog 34 #[.slice A n c] w (SwPost ss w) := by
  have HS := Box0.mk hsz
  clear hsz
  cases hr : rowsB ss
  · have HV := Lib.hid (show swV ss = (⟨#[]⟩, 1) by simp [swV, hr])
    go_enter Try.func34, Try.ntmps34
    go_wp2_with fail
    refine (areRows_b _ _ _ _ false _ h hn HS.out hr).mono ?_
    rintro e w1 ⟨rfl, hb⟩
    go_wp2_with fail
    go_ret2
    exact ⟨by rw [HV.out]; rfl, hb⟩
  have HV := Lib.hid (show swV ss = swF ss 12 1 by simp [swV, hr])
  go_enter Try.func34, Try.ntmps34
  go_wp2_with fail
  refine (areRows_b _ _ _ _ true _ h hn HS.out hr).mono ?_
  rintro e w1 ⟨rfl, hb⟩
  go_wp2_with fail
  go_loopw [4] (fun i wr => ∃ l f : Nat, 1 ≤ l ∧ l + f = 13 ∧ i = .int .i64 l ∧ Box0 (swF ss f l = swF ss 12 1) ∧ Below w.heap.size w wr) (fun i _ => 13 - (intOf i).toNat)
  case atStart => exact ⟨1, 12, Nat.le_refl _, rfl, rfl, ⟨rfl⟩, hb⟩
  case round =>
    clear hb
    obtain ⟨l, f, l1, hl, rfl, HW, hB⟩ := hrel
    by_cases hlt : l ≤ 12
    · obtain ⟨f, rfl⟩ : ∃ g, f = g + 1 := ⟨f - 1, by omega⟩
      have HF := Box0.mk (show ∀ v, (forV ss l).2 = v → forV ss l = ((forV ss l).1, v) from fun v hv => by rw [← hv])
      cases hf : (forV ss l).2
      · have Hf := Box0.mk (HF.out _ hf)
        have HW1 : Box0 (swF ss f (l + 1) = swF ss 12 1) := ⟨by rw [← HW.out, swF_no hf]⟩
        clear hf
        go_wp2_with fail
        refine (wordFor_any _ _ _ _ _ _ (h.keep hB) hr (by omega) (by omega)).mono ?_
        rintro e w2 ⟨he, hb2⟩
        rw [Hf.out] at he
        subst he
        go_wp2_with fail
        go_roundw
        case rel => exact ⟨l + 1, f, by omega, by omega, by go_num, HW1, belowT hb2 hB⟩
        case measure => simp [intOf]; omega
      · have Hf := Box0.mk (HF.out _ hf)
        have HW1 : Box0 (swV ss = ((forV ss l).1, 0)) := ⟨by rw [HV.out, ← HW.out, swF_yes hf]⟩
        clear hf
        go_wp2_with fail
        refine (wordFor_any _ _ _ _ _ _ (h.keep hB) hr (by omega) (by omega)).mono ?_
        rintro e w2 ⟨he, hb2⟩
        rw [Hf.out] at he
        subst he
        go_wp2_with fail
        go_ret2
        exact ⟨by rw [HW1.out]; rfl, belowT hb2 hB⟩
    · obtain rfl : f = 0 := by omega
      have HW1 : Box0 (swV ss = (⟨#[]⟩, 3)) := ⟨by rw [HV.out, ← HW.out]; rfl⟩
      go_wp2_with fail
      go_ret2
      exact ⟨by rw [HW1.out]; rfl, hB⟩
theorem law_FnExactShortestWord (w : World) (A : Option Addr) (n c : Nat) (ss : List ByteArray) (h0 : IsStrs w A n ss) : Calls Try.prog 10 #[.slice A n c] w fun e w' => e = .returned (.bool true) ∧ Below w.heap.size w w' := by
  have h := h0.2.1
  have HS := Box0.mk h0.2.2
  go_enter Try.func10, Try.ntmps10
  go_wp2_with fail
  refine (szStrS_any _ _ _ _ _ h0).mono ?_
  rintro e w' ⟨v, rfl, rfl, hv⟩
  by_cases v0 : v < 0
  · go_wp2_with fail
    go_ret
    exact ⟨rfl, Below.refl _ _⟩
  have hn : n ≤ 1048576 := hv (by omega)
  go_wp2_with fail
  refine (toStrS_any _ _ _ _ _ h hn).mono ?_
  rintro e w1 ⟨rfl, ho1, hb1⟩
  go_wp2_with fail
  refine (specShortestWord_any _ _ _ _ _ (OwnS.strs ho1) hn HS.out).mono ?_
  rintro e w2 ⟨rfl, hb2⟩
  have hB2 := belowT hb2 hb1
  go_wp2_with fail
  refine (toStrS_any _ _ _ _ _ (h.keep hB2) hn).mono ?_
  rintro e w3 ⟨rfl, ho3, hb3⟩
  have hB3 := belowT hb3 hB2
  go_wp2_with fail
  refine (implShortestWord_any _ _ _ _ _ (OwnS.strs ho3) hn HS.out).mono ?_
  rintro e w4 ⟨rfl, hb4⟩
  have hB4 := belowT hb4 hB3
  go_wp2_with fail
  refine (toStrS_any _ _ _ _ _ (h.keep hB4) hn).mono ?_
  rintro e w5 ⟨rfl, ho5, hb5⟩
  have hB5 := belowT hb5 hB4
  go_wp2_with fail
  refine (eqStrS_same _ _ _ _ _ _ _ ((OwnS.strs ho3).keep (belowT hb5 hb4)) (OwnS.strs ho5) hn).mono ?_
  rintro e w6 ⟨rfl, hb6⟩
  go_wp2_with fail
  go_ret
  exact ⟨rfl, belowT hb6 hB5⟩
end Go.Proofs.Ytipelbhikomkiaa
