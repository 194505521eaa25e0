/- markText; marks of baskets. -/
import Derived.Test.YtopefgahppfkcaaDoorVal6
import Derived.Test.YtopefgahppfkcaaDoorDec
namespace Go.Proofs.YtopefgahppfkcaaDoor
open Go.RowKit
set_option linter.unusedVariables false
set_option linter.unusedSimpArgs false

def mkT (k : Int) : ByteArray := if k ≤ 0 then ⟨#[109, 48]⟩ else ⟨#[109]⟩ ++ strOfNums (dg k.toNat)
theorem strN_cons (d : Int) (xs : List Int) : strOfNums [d] ++ strOfNums xs = strOfNums (d :: xs) := by
  apply ByteArray.ext
  simp [strOfNums]
theorem strN_size (xs : List Int) : (strOfNums xs).size = xs.length := by
  show (strOfNums xs).data.size = xs.length
  simp [strOfNums]
theorem markText_any (n : Int) (w : World) (n1 : n ≤ 1000000000) : Calls Tryd.prog 49 #[.int .i64 n] w fun e w' => e = .returned (.string (mkT n)) ∧ Below w.heap.size w w' := by
  by_cases n0 : n ≤ 0
  · have hv : mkT n = ⟨#[109, 48]⟩ := if_pos n0
    rw [hv]
    clear hv
    go_enter Tryd.func49, Tryd.ntmps49
    go_wp2
    go_ret
    exact ⟨rfl, Below.refl _ _⟩
  obtain ⟨m, rfl⟩ := Int.eq_ofNat_of_zero_le (show 0 ≤ n by omega)
  have hv : mkT m = ⟨#[109]⟩ ++ strOfNums (dg m) := by unfold mkT; rw [if_neg n0]; rfl
  rw [hv]
  clear hv
  have hlen := dg_len 10 m (by omega)
  have HL := Lib.hid hlen
  clear hlen
  go_enter Tryd.func49, Tryd.ntmps49
  go_wp2_with fail
  go_loopw [0, 3] (fun i v wr => ∃ (k : Nat) (xs : List Int), k ≤ 1000000000 ∧ i = .int .i64 k ∧ v = .string (strOfNums xs) ∧ BoxD (dg m = dg k ++ xs) ∧ Below w.heap.size w wr) (fun i _ _ => (intOf i).toNat)
  case atStart => exact ⟨m, [], by omega, rfl, rfl, ⟨by simp⟩, Below.refl _ _⟩
  case round =>
    obtain ⟨k, xs, hk, rfl, rfl, hE, hB⟩ := hrel
    have hq : xs.length ≤ 10 := by
      have h1 := HL.out
      rw [hE.out, List.length_append] at h1
      omega
    have hsx := strN_size xs
    have hsz := hB.size
    by_cases hk0 : 0 < k
    · have t0 : decide (0 < k) = true := by simpa using hk0
      have t1 : (0 : Int) < (k : Int) := by omega
      have d0 : 0 ≤ (k : Int) % 10 ∧ (k : Int) % 10 ≤ 9 := by omega
      have d2 : IntKind.u8.wrap (48 + (k : Int) % 10) = 48 + (k : Int) % 10 := by rw [IntKind.wrap_u8]; omega
      have HE := BoxD.mk (show dg m = dg (k / 10) ++ ((48 + (k : Int) % 10) :: xs) by rw [hE.out, dg_pos hk0]; simp)
      have kc := dec_conv (xs := [48 + (k : Int) % 10]) (World.ownsRow_lit wr #[.int .u8 (48 + (k : Int) % 10)] 1 hsz (by unfold maxLen; omega) (by simp))
      have hs1 := strN_size [48 + (k : Int) % 10]
      have hsn : ¬ 9223372036854775807 < (strOfNums [48 + (k : Int) % 10]).size + (strOfNums xs).size := by rw [hs1, hsx]; simp; omega
      have hcons := strN_cons (48 + (k : Int) % 10) xs
      have HC := Lib.hid hcons
      clear hcons
      go_wp2
      go_roundw
      case rel => exact ⟨k / 10, _, by omega, by simp, by rw [HC.out], HE, hB.alloc hsz _⟩
      case measure => simp [intOf]; omega
    · obtain rfl : k = 0 := by omega
      have hx : dg m = xs := by rw [hE.out]; simp [dg]
      have HX := Lib.hid hx
      have hsn : ¬ 9223372036854775807 < (⟨#[109]⟩ : ByteArray).size + (strOfNums xs).size := by rw [hsx]; show ¬ 9223372036854775807 < 1 + xs.length; omega
      clear hx
      go_wp2
      go_ret
      exact ⟨by rw [HX.out]; rfl, hB⟩
end Go.Proofs.YtopefgahppfkcaaDoor
