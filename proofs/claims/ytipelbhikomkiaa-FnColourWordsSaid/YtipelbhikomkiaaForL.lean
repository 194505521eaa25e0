/- WordFor: contracts and law. -/
import Derived.Test.YtipelbhikomkiaaForX
namespace Go.Proofs.Ytipelbhikomkiaa
open Go.RowKit
set_option linter.unusedVariables false
set_option linter.unusedSimpArgs false

def wfV (ss : List ByteArray) (l : Int) : ByteArray × Int := if rowsB ss then (if inB l 1 12 then (if (forV ss l.toNat).2 then ((forV ss l.toNat).1, 0) else (⟨#[]⟩, 9)) else (⟨#[]⟩, 2)) else (⟨#[]⟩, 1)
def WfPost (ss : List ByteArray) (l : Int) (w : World) (e : Ending) (w' : World) : Prop := e = .returned (.tuple #[.string (wfV ss l).1, .int .i64 (wfV ss l).2]) ∧ Below w.heap.size w w'
theorem l12Rows_b (A : Option Addr) (n c : Nat) (ss : List ByteArray) (v : Bool) (w : World) (h : Strs w A n ss) (hn : n ≤ 1048576) (hsz : ∀ s ∈ ss, s.size ≤ maxLen) (hv : rowsB ss = v) : Calls Try.prog 56 #[.slice A n c] w fun e w' =>
    e = .returned (.bool v) ∧ Below w.heap.size w w' := by
  subst hv; exact l12Rows_any A n c ss w h hn hsz
theorem areRows_b (A : Option Addr) (n c : Nat) (ss : List ByteArray) (v : Bool) (w : World) (h : Strs w A n ss) (hn : n ≤ 1048576) (hsz : ∀ s ∈ ss, s.size ≤ maxLen) (hv : rowsB ss = v) : Calls Try.prog 58 #[.slice A n c] w fun e w' =>
    e = .returned (.bool v) ∧ Below w.heap.size w w' := by
  subst hv
  refine (areRows_any A n c ss w h hn hsz).mono ?_
  rintro e w' ⟨rfl, rfl⟩
  exact ⟨rfl, Below.refl _ _⟩
theorem specWordFor_any (A : Option Addr) (n c : Nat) (ss : List ByteArray) (l : Int) (w : World) (h : Strs w A n ss) (hn : n ≤ 1048576) (hsz : ∀ s ∈ ss, s.size ≤ maxLen) : Calls Try.prog 36 #[.slice A n c, .int .i64 l] w (WfPost ss l w) := by
  have HS := Box0.mk hsz
  clear hsz
  cases hr : rowsB ss
  · have HV := Lib.hid (show wfV ss l = (⟨#[]⟩, 1) by simp [wfV, hr])
    go_enter Try.func36, Try.ntmps36
    go_wp2_with fail
    refine (l12Rows_b _ _ _ _ false _ h hn HS.out hr).mono ?_
    rintro e w1 ⟨rfl, hb⟩
    go_wp2_with fail
    go_ret2
    exact ⟨by rw [HV.out]; rfl, hb⟩
  cases hl : inB l 1 12
  · have HV := Lib.hid (show wfV ss l = (⟨#[]⟩, 2) by simp [wfV, hr, hl])
    go_enter Try.func36, Try.ntmps36
    go_wp2_with fail
    refine (l12Rows_b _ _ _ _ true _ h hn HS.out hr).mono ?_
    rintro e w1 ⟨rfl, hb⟩
    go_wp2_with (go_at_call 50; refine (l00In_eq _ _ _ _ _ (by assumption)).mono ?_; rintro e w' ⟨rfl, rfl⟩)
    go_ret2
    exact ⟨by rw [HV.out]; rfl, hb⟩
  obtain ⟨l1, l2⟩ := (inB_iff _ _ _).1 hl
  obtain ⟨l, rfl⟩ := Int.eq_ofNat_of_zero_le (show 0 ≤ l by omega)
  have hV : wfV ss l = if (forV ss l).2 then ((forV ss l).1, 0) else (⟨#[]⟩, 9) := by simp [wfV, hr, hl]
  have HF := Box0.mk (show ∀ v, (forV ss l).2 = v → forV ss l = ((forV ss l).1, v) from fun v hv => by rw [← hv])
  cases hf : (forV ss l).2
  · have HV := Lib.hid (show wfV ss l = (⟨#[]⟩, 9) by rw [hV, hf]; rfl)
    have Hf := Box0.mk (HF.out _ hf)
    clear hV hf
    go_enter Try.func36, Try.ntmps36
    go_wp2_with fail
    refine (l12Rows_b _ _ _ _ true _ h hn HS.out hr).mono ?_
    rintro e w1 ⟨rfl, hb⟩
    go_wp2_with (go_at_call 50; refine (l00In_eq _ _ _ _ _ (by assumption)).mono ?_; rintro e w' ⟨rfl, rfl⟩)
    refine (l12For_any _ _ _ _ _ _ (h.keep hb) hr (by omega) (by omega)).mono ?_
    rintro e w2 ⟨he, hb2⟩
    rw [Hf.out] at he
    subst he
    go_wp2_with fail
    go_ret2
    exact ⟨by rw [HV.out]; rfl, belowT hb2 hb⟩
  · have HV := Lib.hid (show wfV ss l = ((forV ss l).1, 0) by rw [hV, hf]; rfl)
    have Hf := Box0.mk (HF.out _ hf)
    clear hV hf
    go_enter Try.func36, Try.ntmps36
    go_wp2_with fail
    refine (l12Rows_b _ _ _ _ true _ h hn HS.out hr).mono ?_
    rintro e w1 ⟨rfl, hb⟩
    go_wp2_with (go_at_call 50; refine (l00In_eq _ _ _ _ _ (by assumption)).mono ?_; rintro e w' ⟨rfl, rfl⟩)
    refine (l12For_any _ _ _ _ _ _ (h.keep hb) hr (by omega) (by omega)).mono ?_
    rintro e w2 ⟨he, hb2⟩
    rw [Hf.out] at he
    subst he
    go_wp2_with fail
    go_ret2
    exact ⟨by rw [HV.out]; rfl, belowT hb2 hb⟩
theorem implWordFor_any (A : Option Addr) (n c : Nat) (ss : List ByteArray) (l : Int) (w : World) (h : Strs w A n ss) (hn : n ≤ 1048576) (hsz : ∀ s ∈ ss, s.size ≤ maxLen) : Calls Try.prog 37 #[.slice A n c, .int .i64 l] w (WfPost ss l w) := by
  have HS := Box0.mk hsz
  clear hsz
  cases hr : rowsB ss
  · have HV := Lib.hid (show wfV ss l = (⟨#[]⟩, 1) by simp [wfV, hr])
    go_enter Try.func37, Try.ntmps37
    go_wp2_with fail
    refine (areRows_b _ _ _ _ false _ h hn HS.out hr).mono ?_
    rintro e w1 ⟨rfl, hb⟩
    go_wp2_with fail
    go_ret2
    exact ⟨by rw [HV.out]; rfl, hb⟩
  cases hl : inB l 1 12
  · have HV := Lib.hid (show wfV ss l = (⟨#[]⟩, 2) by simp [wfV, hr, hl])
    go_enter Try.func37, Try.ntmps37
    go_wp2_with fail
    refine (areRows_b _ _ _ _ true _ h hn HS.out hr).mono ?_
    rintro e w1 ⟨rfl, hb⟩
    go_wp2_with (go_at_call 51; refine (within_eq _ _ _ _ _ (by assumption)).mono ?_; rintro e w' ⟨rfl, rfl⟩)
    go_ret2
    exact ⟨by rw [HV.out]; rfl, hb⟩
  obtain ⟨l1, l2⟩ := (inB_iff _ _ _).1 hl
  obtain ⟨l, rfl⟩ := Int.eq_ofNat_of_zero_le (show 0 ≤ l by omega)
  have hV : wfV ss l = if (forV ss l).2 then ((forV ss l).1, 0) else (⟨#[]⟩, 9) := by simp [wfV, hr, hl]
  have HF := Box0.mk (show ∀ v, (forV ss l).2 = v → forV ss l = ((forV ss l).1, v) from fun v hv => by rw [← hv])
  cases hf : (forV ss l).2
  · have HV := Lib.hid (show wfV ss l = (⟨#[]⟩, 9) by rw [hV, hf]; rfl)
    have Hf := Box0.mk (HF.out _ hf)
    clear hV hf
    go_enter Try.func37, Try.ntmps37
    go_wp2_with fail
    refine (areRows_b _ _ _ _ true _ h hn HS.out hr).mono ?_
    rintro e w1 ⟨rfl, hb⟩
    go_wp2_with (go_at_call 51; refine (within_eq _ _ _ _ _ (by assumption)).mono ?_; rintro e w' ⟨rfl, rfl⟩)
    refine (wordFor_any _ _ _ _ _ _ (h.keep hb) hr (by omega) (by omega)).mono ?_
    rintro e w2 ⟨he, hb2⟩
    rw [Hf.out] at he
    subst he
    go_wp2_with fail
    go_ret2
    exact ⟨by rw [HV.out]; rfl, belowT hb2 hb⟩
  · have HV := Lib.hid (show wfV ss l = ((forV ss l).1, 0) by rw [hV, hf]; rfl)
    have Hf := Box0.mk (HF.out _ hf)
    clear hV hf
    go_enter Try.func37, Try.ntmps37
    go_wp2_with fail
    refine (areRows_b _ _ _ _ true _ h hn HS.out hr).mono ?_
    rintro e w1 ⟨rfl, hb⟩
    go_wp2_with (go_at_call 51; refine (within_eq _ _ _ _ _ (by assumption)).mono ?_; rintro e w' ⟨rfl, rfl⟩)
    refine (wordFor_any _ _ _ _ _ _ (h.keep hb) hr (by omega) (by omega)).mono ?_
    rintro e w2 ⟨he, hb2⟩
    rw [Hf.out] at he
    subst he
    go_wp2_with fail
    go_ret2
    exact ⟨by rw [HV.out]; rfl, belowT hb2 hb⟩
theorem OwnS.keep {w w' : World} {base : Nat} {v : Value} {n : Nat} {ss : List ByteArray} (h : OwnS w base v n ss) (hb : Below w.heap.size w w') : OwnS w' base v n ss := by
  refine World.ownsRow.kept (row := none) h ⟨hb.os, hb.tape, hb.output, hb.size, fun k hk _ => ?_⟩ ?_
  · exact hb.block k hk
  · cases hv : v.ownBlock <;> simp
theorem law_FnExactWordFor (w : World) (A : Option Addr) (n c : Nat) (ss : List ByteArray) (h0 : IsStrs w A n ss) (l : Int) (_ : (Lit.int .i64 l).wf = true) : Calls Try.prog 11 #[.slice A n c, .int .i64 l] w fun e w' => e = .returned (.bool true) ∧ Below w.heap.size w w' := by
  have h := h0.2.1
  have HS := Box0.mk h0.2.2
  go_enter Try.func11, Try.ntmps11
  go_wp2_with fail
  refine (szStrS_any _ _ _ _ _ h0).mono ?_
  rintro e w' ⟨v, rfl, rfl, hv⟩
  by_cases v0 : v < 0
  · go_wp2_with fail
    go_ret
    exact ⟨rfl, Below.refl _ _⟩
  have hn : n ≤ 1048576 := hv (by omega)
  go_wp2_with fail
  refine (toStrS_any _ _ _ _ _ h hn).mono ?_
  rintro e w1 ⟨rfl, ho1, hb1⟩
  go_wp2_with fail
  refine (specWordFor_any _ _ _ _ _ _ (OwnS.strs ho1) hn HS.out).mono ?_
  rintro e w2 ⟨rfl, hb2⟩
  have hB2 := belowT hb2 hb1
  go_wp2_with fail
  refine (toStrS_any _ _ _ _ _ (h.keep hB2) hn).mono ?_
  rintro e w3 ⟨rfl, ho3, hb3⟩
  have hB3 := belowT hb3 hB2
  go_wp2_with fail
  refine (implWordFor_any _ _ _ _ _ _ (OwnS.strs ho3) hn HS.out).mono ?_
  rintro e w4 ⟨rfl, hb4⟩
  have hB4 := belowT hb4 hB3
  go_wp2_with fail
  refine (toStrS_any _ _ _ _ _ (h.keep hB4) hn).mono ?_
  rintro e w5 ⟨rfl, ho5, hb5⟩
  have hB5 := belowT hb5 hB4
  go_wp2_with fail
  refine (eqStrS_same _ _ _ _ _ _ _ ((OwnS.strs ho3).keep (belowT hb5 hb4)) (OwnS.strs ho5) hn).mono ?_
  rintro e w6 ⟨rfl, hb6⟩
  go_wp2_with fail
  go_ret
  exact ⟨rfl, belowT hb6 hB5⟩
end Go.Proofs.Ytipelbhikomkiaa
