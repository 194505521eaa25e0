/- More of the source: fresh lists of numbers; a Draw function's frame. -/
import Derived.Test.YtgjjmgneekjapaaSrc
namespace Go.Proofs.Ytgjjmgneekjapaa
open Go.RowKit
set_option linter.unusedVariables false
set_option linter.unusedSimpArgs false

theorem ints_new (w : World) (t : TypeId) (zs : List Int) : Ints (w.alloc (.cells (zs.map (Value.int .i64)).toArray t)) (some ⟨w.heap.size, 0, none⟩) zs.length zs := by
  refine ⟨rfl, fun hn => ⟨_, _, rfl, by simp, fun j z hz => ?_⟩⟩
  rw [Nat.zero_add, World.cell?_alloc_new]
  simp [hz]
theorem Src.alloc {w : World} {base p k : Nat} (h : Src w base p k) (o : Obj) : Src (w.alloc o) base p k := h.keep ((Below.refl _ _).alloc (Nat.le_refl _) o)
theorem grown_alloc {w0 w : World} {r : Option Nat} (h : w0.grownBy w r) (o : Obj) : w0.grownBy (w.alloc o) r := World.grownBy.trans h (World.grownBy_alloc w o r)
theorem Src.below {w0 w w' : World} {base p k : Nat} (hs : Src w base p k) (hb : Below w0.heap.size w0 w) (hp : w0.heap.size ≤ p) (hg : w.grownBy w' (some p)) : Below w0.heap.size w0 w' :=
  hb.grown hg hb.size (fun g e => by injection e with e; omega)
theorem l15Loss_any (base p k : Nat) (w : World) (h : Src w base p k) (hk : k ≤ 800000000000) : Calls Try.prog 55 #[.pointer (some ⟨p, 0, none⟩)] w (Drawn (-1) 1001 base p (k + 4) w) := by
  go_enter Try.func55, Try.ntmps55
  go_wp2_with fail
  refine (one_any _ _ _ _ _ h (by omega) (by omega)).mono ?_
  rintro e w1 ⟨v, rfl, hs, hg⟩
  cases v
  · go_wp2_with fail
    refine (pick_any _ _ _ _ _ hs (by omega) (by omega)).mono ?_
    rintro e w2 ⟨v, rfl, v0, v1, hs2, hg2⟩
    go_wp2_with fail
    go_ret
    exact ⟨_, rfl, by omega, by omega, hs2, World.grownBy.trans hg hg2⟩
  · go_wp2_with fail
    have hlt := hs.lt
    refine (among_any _ _ _ [-1, 0, 1000, 1001] _ _ _ _ (hs.alloc _) (by omega) (ints_new _ _ [-1, 0, 1000, 1001]) (by simp) (by simp) (by simp [blk]; omega)).mono ?_
    rintro e w2 ⟨v, rfl, hm, hs2, hg2⟩
    simp at hm
    go_wp2_with fail
    go_ret
    exact ⟨_, rfl, by omega, by omega, hs2, World.grownBy.trans (grown_alloc hg _) hg2⟩
end Go.Proofs.Ytgjjmgneekjapaa
