/- f6big. -/
import Derived.Test.YtgjjmgneekjapaaDoorSrc
namespace Go.Proofs.YtgjjmgneekjapaaDoor
open Go.RowKit
set_option linter.unusedVariables false
set_option linter.unusedSimpArgs false

theorem Bytes.mono {w : World} {base base' : Nat} {A : Option Addr} {n : Nat} (h : Bytes w base A n) (hb : base ≤ base') : Bytes w base' A n :=
  ⟨h.1, fun hn => by obtain ⟨b, off, e, hlt, hc⟩ := h.2 hn; exact ⟨b, off, e, by omega, hc⟩⟩
theorem f6big_any (A : Option Addr) (n c : Nat) (v : Bool) (w : World) (hn : n ≤ maxLen) (hv : decide (4096 < n) = v) : Calls Tryd.prog 8 #[.slice A n c] w fun e w' => e = .returned (.bool v) ∧ w = w' := by
  unfold maxLen at hn
  cases v
  · have h1 : ¬ (4096 : Int) < (n : Int) := by have := of_decide_eq_false hv; omega
    clear hv
    go_enter Tryd.func8, Tryd.ntmps8
    go_wp2
    go_ret
    exact ⟨rfl, rfl⟩
  · have h1 : (4096 : Int) < (n : Int) := by have := of_decide_eq_true hv; omega
    clear hv
    go_enter Tryd.func8, Tryd.ntmps8
    go_wp2
    go_ret
    exact ⟨rfl, rfl⟩
end Go.Proofs.YtgjjmgneekjapaaDoor
