/- A word for rows: l12For, wordFor. -/
import Derived.Test.YtipelbhikomkiaaStrR
namespace Go.Proofs.Ytipelbhikomkiaa
open Go.RowKit
set_option linter.unusedVariables false
set_option linter.unusedSimpArgs false

/-- Symbol k of the rows, one row behind the other. -/
def chr (ss : List ByteArray) (k : Nat) : Nat := bt (ss.getD (k / size0 ss) ⟨#[]⟩) (k % size0 ss)
def putC (l k : Nat) (c : Nat) (wd : List Int) : Option (List Int) :=
  if c = 63 then some wd else if wd.getD (k % l) 0 ≠ 0 ∧ wd.getD (k % l) 0 ≠ (c : Int) then none else some (wd.set (k % l) (c : Int))
def stK (ss : List ByteArray) (l : Nat) : Nat → Option (List Int)
  | 0 => some (List.replicate l 0)
  | k + 1 => (stK ss l k).bind (putC l k (chr ss k))
def fin (wd : List Int) : List Int := wd.map fun z => if z = 0 then 97 else z
def forV (ss : List ByteArray) (l : Nat) : ByteArray × Bool := match stK ss l (ss.length * size0 ss) with
  | some wd => (strOfNums (fin wd), true)
  | none => (⟨#[]⟩, false)
theorem stK_none {ss : List ByteArray} {l k : Nat} (h : stK ss l k = none) : ∀ m, k ≤ m → stK ss l m = none := fun m hm => by
  obtain ⟨d, rfl⟩ : ∃ d, m = k + d := ⟨m - k, by omega⟩
  clear hm
  induction d with
  | zero => exact h
  | succ d ih => rw [← Nat.add_assoc, stK, ih]; rfl
theorem chr_at {ss : List ByteArray} {i j : Nat} {s : ByteArray} (hs : ss[i]? = some s) (hj : j < size0 ss) : chr ss (i * size0 ss + j) = bt s j := by
  unfold chr
  have h1 : (i * size0 ss + j) / size0 ss = i := by
    rw [Nat.mul_comm, Nat.mul_add_div (by omega), Nat.div_eq_of_lt hj, Nat.add_zero]
  have h2 : (i * size0 ss + j) % size0 ss = j := by
    rw [Nat.mul_comm, Nat.mul_add_mod, Nat.mod_eq_of_lt hj]
  rw [h1, h2, List.getD_eq_getElem?_getD, hs]; rfl
theorem stK_skip {ss : List ByteArray} {l k : Nat} {wd : List Int} (h : stK ss l k = some wd) (hc : chr ss k = 63) : stK ss l (k + 1) = some wd := by
  rw [stK, h]
  show putC l k (chr ss k) wd = some wd
  unfold putC
  rw [if_pos hc]
theorem stK_clash {ss : List ByteArray} {l k : Nat} {wd : List Int} {u : Int} (h : stK ss l k = some wd) (hu : wd[k % l]? = some u) (hc : chr ss k ≠ 63) (h0 : u ≠ 0) (h1 : u ≠ (chr ss k : Int)) : stK ss l (k + 1) = none := by
  rw [stK, h]
  show putC l k (chr ss k) wd = none
  unfold putC
  rw [if_neg hc, List.getD_eq_getElem?_getD, hu, if_pos ⟨h0, h1⟩]
theorem stK_put {ss : List ByteArray} {l k : Nat} {wd : List Int} {u : Int} (h : stK ss l k = some wd) (hu : wd[k % l]? = some u) (hc : chr ss k ≠ 63) (h0 : u = 0 ∨ u = (chr ss k : Int)) : stK ss l (k + 1) = some (wd.set (k % l) (chr ss k : Int)) := by
  rw [stK, h]
  show putC l k (chr ss k) wd = _
  unfold putC
  rw [if_neg hc, List.getD_eq_getElem?_getD, hu, if_neg (by simp only [Option.getD_some]; omega)]
theorem stK_len {ss : List ByteArray} {l : Nat} : ∀ {k : Nat} {wd : List Int}, stK ss l k = some wd → wd.length = l := by
  intro k
  induction k with
  | zero => intro wd h; simp [stK] at h; rw [← h]; simp
  | succ k ih =>
    intro wd h
    rw [stK] at h
    obtain ⟨w0, h0, h1⟩ := Option.bind_eq_some_iff.1 h
    have := ih h0
    unfold putC at h1
    split at h1
    · injection h1 with h1; rw [← h1]; exact this
    · split at h1
      · exact absurd h1 (by simp)
      · injection h1 with h1; rw [← h1]; simpa using this
theorem stK_rng {ss : List ByteArray} {l : Nat} : ∀ {k : Nat} {wd : List Int}, stK ss l k = some wd → ∀ z ∈ wd, 0 ≤ z ∧ z ≤ 255 := by
  intro k
  induction k with
  | zero => intro wd h z hz; simp [stK] at h; rw [← h] at hz; have := List.eq_of_mem_replicate hz; omega
  | succ k ih =>
    intro wd h z hz
    rw [stK] at h
    obtain ⟨w0, h0, h1⟩ := Option.bind_eq_some_iff.1 h
    have hi := ih h0
    unfold putC at h1
    split at h1
    · injection h1 with h1; rw [← h1] at hz; exact hi z hz
    · split at h1
      · exact absurd h1 (by simp)
      · injection h1 with h1
        rw [← h1] at hz
        rcases List.mem_or_eq_of_mem_set hz with h2 | h2
        · exact hi z h2
        · have : chr ss k < 256 := by unfold chr bt; exact UInt8.toNat_lt _
          omega
end Go.Proofs.Ytipelbhikomkiaa
