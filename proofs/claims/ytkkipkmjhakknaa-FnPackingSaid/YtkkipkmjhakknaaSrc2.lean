/- More of the source: fresh lists of numbers; a Draw function's frame. -/
import Derived.Test.YtkkipkmjhakknaaSrc
namespace Go.Proofs.Ytkkipkmjhakknaa
open Go.RowKit
set_option linter.unusedVariables false
set_option linter.unusedSimpArgs false

theorem ints_new (w : World) (t : TypeId) (zs : List Int) : Ints (w.alloc (.cells (zs.map (Value.int .i64)).toArray t)) (some ⟨w.heap.size, 0, none⟩) zs.length zs := by
  refine ⟨rfl, fun hn => ⟨_, _, rfl, by simp, fun j z hz => ?_⟩⟩
  rw [Nat.zero_add, World.cell?_alloc_new]
  simp [hz]
theorem Src.alloc {w : World} {base p k : Nat} (h : Src w base p k) (o : Obj) : Src (w.alloc o) base p k := h.keep ((Below.refl _ _).alloc (Nat.le_refl _) o)
theorem grown_alloc {w0 w : World} {r : Option Nat} (h : w0.grownBy w r) (o : Obj) : w0.grownBy (w.alloc o) r := World.grownBy.trans h (World.grownBy_alloc w o r)
theorem Src.below {w0 w w' : World} {base p k : Nat} (hs : Src w base p k) (hb : Below w0.heap.size w0 w) (hp : w0.heap.size ≤ p) (hg : w.grownBy w' (some p)) : Below w0.heap.size w0 w' :=
  hb.grown hg hb.size (fun g e => by injection e with e; omega)
end Go.Proofs.Ytkkipkmjhakknaa
