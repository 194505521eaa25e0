/- CaneFor of the spec, and the law. -/
import Derived.Test.YtgjjmgneekjapaaDoorCane
namespace Go.Proofs.YtgjjmgneekjapaaDoor
open Go.RowKit
set_option linter.unusedVariables false
set_option linter.unusedSimpArgs false

/-- What the first k pairs of a step add. -/
def ptC (f s a st : Int) (k : Nat) : Int := if st = 1 ∨ st = 3 then k * (a * s) else if st = 2 ∨ st = 4 then k * (a * f) else a * k * (k - 1)
/-- What the first j steps add. -/
def cumC (f s a : Int) : Nat → Int
  | 0 => 0
  | j + 1 => cumC f s a j + ptC f s a (j + 1) (stepN f.toNat s.toNat (j + 1))
theorem cumC_6 (f s a : Nat) : cumC f s a 6 = canes f s a := by
  simp only [cumC, ptC, stepN, canes, Int.toNat_natCast]
  by_cases h : f ≤ s
  · have h1 : min f s = f := Nat.min_eq_left h
    have h2 : min (f : Int) s = f := by omega
    simp [h1, h2]
    grind
  · have h1 : min f s = s := Nat.min_eq_right (by omega)
    have h2 : min (f : Int) s = s := by omega
    simp [h1, h2]
    grind
theorem pairsL_len (f b s : Nat) (st : Int) : (pairsL f b s st).length = stepN f s st := by simp [pairsL]
theorem pairsL_at {f b s k : Nat} {st : Int} {p : Int × Int} (h : (pairsL f b s st)[k]? = some p) : p = stepP f b st k := by
  unfold pairsL at h
  rw [List.getElem?_map] at h
  have hk := (List.getElem?_eq_some_iff.1 (show (pairsL f b s st)[k]? = some p by unfold pairsL; rw [List.getElem?_map]; exact h)).1
  rw [pairsL_len] at hk
  rw [List.getElem?_range hk] at h
  simpa using h.symm
theorem stepN_le {f s : Nat} {st : Int} (hf : f ≤ 40) (hs : s ≤ 40) : stepN f s st ≤ 40 := by
  unfold stepN
  split
  · exact hf
  · split
    · exact hs
    · omega

end Go.Proofs.YtgjjmgneekjapaaDoor
