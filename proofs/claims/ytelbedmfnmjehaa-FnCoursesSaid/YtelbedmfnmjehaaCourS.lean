/- ValidCourses: contracts and law. -/
import Derived.Test.YtelbedmfnmjehaaRecCourse
import Derived.Test.YtelbedmfnmjehaaCour
namespace Go.Proofs.Ytelbedmfnmjehaa
open Go.RowKit
set_option linter.unusedVariables false
set_option linter.unusedSimpArgs false

def okC (x : R3) : Bool := okCourse x.1 x.2.1 x.2.2
def okCs (cs : List R3) : Bool := cs.all okC && decide (cs.length ≤ 60)
def OkTill (cs : List R3) (k : Nat) : Prop := ∀ j x, j < k → cs[j]? = some x → okC x = true
theorem okTill_succ {cs : List R3} {k : Nat} {x : R3} (h : OkTill cs k) (hx : cs[k]? = some x) (ho : okC x = true) : OkTill cs (k + 1) := fun j y hj hy => by
  rcases Nat.lt_succ_iff_lt_or_eq.1 hj with h1 | rfl
  · exact h j y h1 hy
  · rw [hx] at hy; injection hy with hy; subst hy; exact ho
theorem okCs_bad {cs : List R3} {k : Nat} {x : R3} (hx : cs[k]? = some x) (ho : okC x = false) : okCs cs = false := by
  unfold okCs
  have : cs.all okC = false := by rw [List.all_eq_false]; exact ⟨x, List.mem_of_getElem? hx, by simpa using ho⟩
  rw [this]; rfl
theorem okCs_len {cs : List R3} {n : Nat} (hn : cs.length = n) (h : OkTill cs n) : okCs cs = decide (n ≤ 60) := by
  unfold okCs
  have : cs.all okC = true := by
    rw [List.all_eq_true]
    intro x hx
    obtain ⟨j, hj, rfl⟩ := List.mem_iff_getElem.1 hx
    exact h j _ (by omega) (List.getElem?_eq_getElem hj)
  rw [this, hn]; rfl
theorem okCs_iff {cs : List R3} : okCs cs = true ↔ (∀ x ∈ cs, okC x = true) ∧ cs.length ≤ 60 := by
  simp [okCs]

theorem isCourse_eq (x : R3) (v : Bool) (w : World) (h : okC x = v) : Calls Try.prog 54 #[.agg #[.int .i64 x.1, .int .i64 x.2.1, .int .i64 x.2.2]] w fun e w' => e = .returned (.bool v) ∧ Below w.heap.size w w' := by
  subst h; exact isCourse_any _ _ _ w

theorem validCourses_any (A : Option Addr) (n c : Nat) (cs : List R3) (w : World) (h : Recs w A n cs) (hn : n ≤ 1048576) : Calls Try.prog 27 #[.slice A n c] w fun e w' => e = .returned (.bool (okCs cs)) ∧ Below w.heap.size w w' := by
  have HL := Lib.hid h.1
  go_enter Try.func27, Try.ntmps27
  go_wp2
  go_loopw [7] (fun i wr => ∃ k : Nat, k ≤ n ∧ i = .int .i64 k ∧ OkTill cs k ∧ Below w.heap.size w wr) (fun i _ => n - (intOf i).toNat)
  case atStart => exact ⟨0, Nat.zero_le _, rfl, fun j x hj _ => absurd hj (by omega), Below.refl _ _⟩
  case round =>
    obtain ⟨k, hk, rfl, he, hbw⟩ := hrel
    by_cases hlt : k < n
    · obtain ⟨b, off, x, rfl, hblt, hx, hc0, hc1, hc2⟩ := (h.keep hbw).at_ hlt
      have Hx := Lib.hid hx
      clear hx
      cases ho : okC x
      · have Ho := Lib.hid ho
        clear ho
        go_wp2_with (go_at_call 54; refine (isCourse_eq x false _ Ho.out).mono ?_; rintro e w2 ⟨rfl, hb2⟩)
        go_ret
        exact ⟨ret_bool (okCs_bad Hx.out Ho.out).symm, belowT (hb2.mono (by simp)) (hbw.alloc hbw.size _)⟩
      · have Ho := Lib.hid ho
        clear ho
        go_wp2_with (go_at_call 54; refine (isCourse_eq x true _ Ho.out).mono ?_; rintro e w2 ⟨rfl, hb2⟩)
        go_roundw
        case rel => exact ⟨k + 1, by omega, by go_num, okTill_succ he Hx.out Ho.out, belowT (hb2.mono (by simp)) (hbw.alloc hbw.size _)⟩
        case measure => simp [intOf]; omega
    · obtain rfl : k = n := by omega
      go_wp2
      go_ret
      exact ⟨ret_bool (by rw [okCs_len HL.out he, Bool.eq_iff_iff]; simp; omega), hbw⟩
end Go.Proofs.Ytelbedmfnmjehaa
