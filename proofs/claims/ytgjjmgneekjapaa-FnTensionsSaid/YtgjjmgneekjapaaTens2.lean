/- The draws of tensions. -/
import Derived.Test.YtgjjmgneekjapaaSrc2
import Derived.Test.YtgjjmgneekjapaaTens
namespace Go.Proofs.Ytgjjmgneekjapaa
open Go.RowKit
set_option linter.unusedVariables false
set_option linter.unusedSimpArgs false

def Drawn3 (w : World) (e : Ending) (w' : World) : Prop := ∃ a b c : Int, e = .returned (.tuple #[.int .i64 a, .int .i64 b, .int .i64 c]) ∧ Below w.heap.size w w'
theorem drawTensionAfter_any (A : Option Addr) (n c : Nat) (w : World) (h : Bytes w w.heap.size A n) : Calls Try.prog 39 #[.slice A n c] w (Drawn3 w) := by
  go_enter Try.func39, Try.ntmps39
  go_wp2_with fail
  refine (l00From_any _ _ _ _ _ h (Nat.le_refl _)).mono ?_
  rintro e w1 ⟨rfl, hs1, hB⟩
  generalize hp : w.heap.size = p at hs1
  have hp' : w.heap.size ≤ p := by omega
  clear hp
  go_wp2_with fail
  (refine (pick_any _ _ _ _ _ hs1 (by omega) (by omega)).mono ?_)
  rintro e w2 ⟨v, rfl, v0, v1, hs2, hg2⟩
  replace hB := hs1.below hB hp' hg2
  go_wp2_with fail
  (refine (one_any _ _ _ _ _ hs2 (by omega) (by omega)).mono ?_)
  rintro e w3 ⟨t, rfl, hs3, hg3⟩
  replace hB := hs2.below hB hp' hg3
  cases t
  case' true =>
    go_wp2_with fail
    (refine (among_any _ _ _ [-1, 0, 100, 101] _ _ _ _ (Src.alloc hs3 _) (by omega) (ints_new _ _ [-1, 0, 100, 101]) (by simp) (by simp) (by have := Src.lt hs3; simp [blk]; omega)).mono ?_)
    rintro e w4 ⟨v, rfl, hm, hs4, hg4⟩
    replace hB := (hs3.alloc _).below (hB.alloc hB.size _) hp' hg4
    simp at hm
  case' false =>
    have hs4 : Src w3 _ p (0 + 2 + 2 + 2) := hs3.mono (by omega)
  all_goals
    go_wp2_with fail
    (refine (pick_any _ _ _ _ _ hs4 (by omega) (by omega)).mono ?_)
    rintro e w5 ⟨u, rfl, u0, u1, hs5, hg5⟩
    replace hB := hs4.below hB hp' hg5
    go_wp2_with fail
    refine (l15Loss_any _ _ _ _ hs5 (by omega)).mono ?_
    rintro e w6 ⟨x, rfl, x0, x1, hs6, hg6⟩
    replace hB := hs5.below hB hp' hg6
    go_wp2_with fail
    go_ret3
    exact ⟨_, _, _, rfl, hB⟩
theorem drawLeastTension_any (A : Option Addr) (n c : Nat) (w : World) (h : Bytes w w.heap.size A n) : Calls Try.prog 40 #[.slice A n c] w (Drawn3 w) := by
  go_enter Try.func40, Try.ntmps40
  go_wp2_with fail
  refine (l00From_any _ _ _ _ _ h (Nat.le_refl _)).mono ?_
  rintro e w1 ⟨rfl, hs1, hB⟩
  generalize hp : w.heap.size = p at hs1
  have hp' : w.heap.size ≤ p := by omega
  clear hp
  go_wp2_with fail
  (refine (pick_any _ _ _ _ _ hs1 (by omega) (by omega)).mono ?_)
  rintro e w2 ⟨v, rfl, v0, v1, hs2, hg2⟩
  replace hB := hs1.below hB hp' hg2
  go_wp2_with fail
  refine (l15Loss_any _ _ _ _ hs2 (by omega)).mono ?_
  rintro e w6 ⟨x, rfl, x0, x1, hs6, hg6⟩
  replace hB := hs2.below hB hp' hg6
  go_wp2_with fail
  (refine (one_any _ _ _ _ _ hs6 (by omega) (by omega)).mono ?_)
  rintro e w3 ⟨t, rfl, hs3, hg3⟩
  replace hB := hs6.below hB hp' hg3
  cases t
  · go_wp2_with fail
    (refine (pick_any _ _ _ _ _ hs3 (by omega) (by omega)).mono ?_)
    rintro e w5 ⟨u, rfl, u0, u1, hs5, hg5⟩
    replace hB := hs3.below hB hp' hg5
    go_wp2_with fail
    go_ret3
    exact ⟨_, _, _, rfl, hB⟩
  · go_wp2_with fail
    (refine (among_any _ _ _ [-1, 0, 100, 101] _ _ _ _ (Src.alloc hs3 _) (by omega) (ints_new _ _ [-1, 0, 100, 101]) (by simp) (by simp) (by have := Src.lt hs3; simp [blk]; omega)).mono ?_)
    rintro e w4 ⟨v, rfl, hm, hs4, hg4⟩
    replace hB := (hs3.alloc _).below (hB.alloc hB.size _) hp' hg4
    go_wp2_with fail
    go_ret3
    exact ⟨_, _, _, rfl, hB⟩
end Go.Proofs.Ytgjjmgneekjapaa
