/- HeightAt: contracts. -/
import Derived.Test.YtelbedmfnmjehaaCourZ
import Derived.Test.YtelbedmfnmjehaaIntR
namespace Go.Proofs.Ytelbedmfnmjehaa
open Go.RowKit
set_option linter.unusedVariables false
set_option linter.unusedSimpArgs false

/-- a / 1000 to the nearest, a half upwards. -/
def rnd (a : Int) : Int := (2 * a + 1000) / 2000
theorem rnd_bd {a : Int} (h0 : 0 ≤ a) (h1 : a ≤ 10800000) : 0 ≤ rnd a ∧ rnd a ≤ 10801 := by unfold rnd; omega
theorem l00Floor_any (a : Int) (w : World) (h0 : 0 ≤ a) (h1 : a ≤ 30000000) : Calls Try.prog 85 #[.int .i64 a, .int .i64 2000] w fun e w' => e = .returned (.int .i64 (a / 2000)) ∧ w = w' := by
  have m0 := Int.emod_nonneg a (show (2000 : Int) ≠ 0 by omega)
  have m1 := Int.ediv_nonneg h0 (show (0 : Int) ≤ 2000 by omega)
  go_enter Try.func85, Try.ntmps85
  go_wp2
  go_ret
  exact ⟨rfl, rfl⟩
theorem l00Round_any (a : Int) (w : World) (h0 : 0 ≤ a) (h1 : a ≤ 10800000) : Calls Try.prog 70 #[.int .i64 a, .int .i64 1000] w fun e w' => e = .returned (.int .i64 (rnd a)) ∧ w = w' := by
  go_enter Try.func70, Try.ntmps70
  go_wp2_with fail
  refine (l00Floor_any _ _ (by omega) (by omega)).mono ?_
  rintro e w' ⟨rfl, rfl⟩
  go_wp2_with fail
  go_ret
  exact ⟨rfl, rfl⟩
theorem nearest_any (a : Int) (w : World) (h0 : 0 ≤ a) (h1 : a ≤ 10800000) : Calls Try.prog 71 #[.int .i64 a, .int .i64 1000] w fun e w' => e = .returned (.int .i64 (rnd a)) ∧ ∃ q, w' = w.drewN q := by
  have m0 := Int.emod_nonneg a (show (1000 : Int) ≠ 0 by omega)
  have m1 := Int.emod_lt_of_pos a (show (0 : Int) < 1000 by omega)
  have m2 := Int.ediv_nonneg h0 (show (0 : Int) ≤ 1000 by omega)
  by_cases h : 1000 - a % 1000 ≤ a % 1000
  · have hv : rnd a = a / 1000 + 1 := by unfold rnd; omega
    rw [hv]
    clear hv
    go_enter Try.func71, Try.ntmps71
    go_wp2_with fail
    go_quiet (fail)
    go_wp2
    go_ret
    exact ⟨rfl, (by first | exact ⟨_, rfl⟩ | exact drew2 _ _ _ | exact ⟨0, rfl⟩)⟩
  · have hv : rnd a = a / 1000 := by unfold rnd; omega
    rw [hv]
    clear hv
    go_enter Try.func71, Try.ntmps71
    go_wp2_with fail
    go_quiet (fail)
    go_wp2
    go_ret
    exact ⟨rfl, (by first | exact ⟨_, rfl⟩ | exact drew2 _ _ _ | exact ⟨0, rfl⟩)⟩
def highL (cs : List R3) (p : Int) : List Int := (List.range cs.length).map fun k => rnd (sumT (cs.take k) * p)
def highV (cs : List R3) (p : Int) : List Int × Int := if okCs cs then (if inB p 50 100 then (highL cs p, 0) else ([], 2)) else ([], 1)
end Go.Proofs.Ytelbedmfnmjehaa
