/- RoundsOfBasket, LayerAt: contracts. -/
import Derived.Test.YtopefgahppfkcaaDoorVal5
import Derived.Handy
namespace Go.Proofs.YtopefgahppfkcaaDoor
open Go.RowKit
set_option linter.unusedVariables false
set_option linter.unusedSimpArgs false

/-- The rounds of the first k layers. -/
def pre (cs : List R2) (k : Nat) : Int := ((cs.take k).map (·.2)).sum
theorem pre_0 (cs : List R2) : pre cs 0 = 0 := rfl
theorem pre_succ {cs : List R2} {k : Nat} {x : R2} (hx : cs[k]? = some x) : pre cs (k + 1) = pre cs k + x.2 := by
  have hk := (List.getElem?_eq_some_iff.1 hx).1
  unfold pre
  rw [List.take_succ_eq_append_getElem hk, List.map_append, List.sum_append]
  have : cs[k] = x := (List.getElem?_eq_some_iff.1 hx).2
  rw [this]; simp
structure Lays (cs : List R2) : Prop where
  len : cs.length ≤ 40
  rng : ∀ x ∈ cs, 1 ≤ x.2 ∧ x.2 ≤ 100
theorem okBas_lays {st : Int} {cs : List R2} {b : ByteArray} (h : okBas st cs b = true) : Lays cs := by
  unfold okBas at h
  by_cases h0 : st = 0
  · rw [if_pos h0] at h
    have : cs = [] := by rw [Bool.and_eq_true, decide_eq_true_iff] at h; exact h.1
    subst this
    exact ⟨by simp, fun x hx => absurd hx (by simp)⟩
  · rw [if_neg h0, Bool.and_eq_true, Bool.and_eq_true, Bool.and_eq_true, List.all_eq_true, decide_eq_true_iff] at h
    obtain ⟨_, h1, h2, _⟩ := h
    refine ⟨h2, fun x hx => ?_⟩
    have := h1 x hx
    unfold okLay at this
    rw [Bool.and_eq_true, inB_iff] at this
    exact this.2
theorem pre_bd {cs : List R2} (h : Lays cs) : ∀ k : Nat, k ≤ cs.length → (k : Int) ≤ pre cs k ∧ pre cs k ≤ 100 * k := by
  intro k
  induction k with
  | zero => intro _; rw [pre_0]; omega
  | succ k ih =>
    intro hk
    have hx := List.getElem?_eq_getElem (show k < cs.length by omega)
    have := h.rng _ (List.mem_of_getElem? hx)
    have := ih (by omega)
    rw [pre_succ hx]; omega
theorem pre_mono {cs : List R2} (h : Lays cs) {i j : Nat} (hij : i ≤ j) (hj : j ≤ cs.length) : pre cs i ≤ pre cs j := by
  obtain ⟨d, rfl⟩ : ∃ d, j = i + d := ⟨j - i, by omega⟩
  clear hij
  induction d with
  | zero => exact Int.le_refl _
  | succ d ih =>
    have hx := List.getElem?_eq_getElem (show i + d < cs.length by omega)
    have := h.rng _ (List.mem_of_getElem? hx)
    have := ih (by omega)
    rw [← Nat.add_assoc, pre_succ hx]; omega
structure LayAt (cs : List R2) (r : Int) (k : Nat) : Prop where
  lt : k < cs.length
  lo : pre cs k ≤ r
  hi : r < pre cs (k + 1)
theorem layAt_one {cs : List R2} {r : Int} {i j : Nat} (h : Lays cs) (hi : LayAt cs r i) (hj : LayAt cs r j) : i = j := by
  rcases Nat.lt_trichotomy i j with h1 | h1 | h1
  · have := pre_mono h (show i + 1 ≤ j by omega) (by have := hj.lt; omega)
    have := hi.hi; have := hj.lo; omega
  · exact h1
  · have := pre_mono h (show j + 1 ≤ i by omega) (by have := hi.lt; omega)
    have := hj.hi; have := hi.lo; omega
theorem l17Ok_eq (q : Nat) (st : Int) (A : Option Addr) (n c : Nat) (b : ByteArray) (cs : List R2) (v : Bool) (w : World) (hX : C3 w q (.int .i64 st) (.slice A n c) (.string b)) (h : Recs w A n cs) (hs : ∀ x ∈ cs, x.1.size ≤ maxLen) (hn : n ≤ 1048576) (hb : b.size ≤ maxLen) (hv : okBas st cs b = v) : Calls Tryd.prog 29 #[.pointer (some ⟨q, 0, none⟩)] w (OkPost v w) := by
  subst hv; exact l17Ok_any q st A n c b cs w hX h hs hn hb
theorem implValidBasket_eq (st : Int) (A : Option Addr) (n c : Nat) (b : ByteArray) (cs : List R2) (v : Bool) (w : World) (h : Recs w A n cs) (hs : ∀ x ∈ cs, x.1.size ≤ maxLen) (hn : n ≤ 1048576) (hb : b.size ≤ maxLen) (hv : okBas st cs b = v) : Calls Tryd.prog 14 #[bval st A n c b] w (OkPost v w) := by
  subst hv; exact implValidBasket_any st A n c b cs w h hs hn hb
theorem l17Rounds_any (q : Nat) (st : Int) (A : Option Addr) (n c : Nat) (b : ByteArray) (cs : List R2) (w : World) (hX : C3 w q (.int .i64 st) (.slice A n c) (.string b)) (h : Recs w A n cs) (hl : Lays cs) : Calls Tryd.prog 35 #[.pointer (some ⟨q, 0, none⟩)] w fun e w' => e = .returned (.int .i64 (pre cs n)) ∧ w = w' := by
  obtain ⟨c0, c1, c2⟩ := hX
  have hn40 : n ≤ 40 := by rw [← h.1]; exact hl.len
  have HL := Box0.mk hl
  have HN := Lib.hid h.1
  clear hl
  go_enter Tryd.func35, Tryd.ntmps35
  go_wp2
  go_loop [3, 4] (fun s i => ∃ k : Nat, k ≤ n ∧ i = .int .i64 k ∧ s = .int .i64 (pre cs k)) (fun _ i => n - (intOf i).toNat)
  case atStart => exact ⟨0, Nat.zero_le _, rfl, rfl⟩
  case round =>
    obtain ⟨k, hk, rfl, rfl⟩ := hrel
    have hp := pre_bd HL.out k (by rw [HN.out]; omega)
    by_cases hlt : k < n
    · obtain ⟨a, off, x, rfl, hblt, hx, hc0, hc1⟩ := h.at_ hlt
      have hr := HL.out.rng x (List.mem_of_getElem? hx)
      have HS := Lib.hid (pre_succ hx)
      clear hx
      go_wp2
      go_round
      case rel => exact ⟨k + 1, by omega, by go_num, by rw [HS.out]⟩
      case measure => simp [intOf]; omega
    · obtain rfl : k = n := by omega
      go_wp2
      go_ret
      exact ⟨rfl, rfl⟩
def roV (v : Bool) (cs : List R2) : Int × Int := if v then (pre cs cs.length, 0) else (0, 1)
def RoPost (v : Bool) (cs : List R2) (w : World) (e : Ending) (w' : World) : Prop := e = .returned (.tuple #[.int .i64 (roV v cs).1, .int .i64 (roV v cs).2]) ∧ Below w.heap.size w w'
theorem specRounds_any (st : Int) (A : Option Addr) (n c : Nat) (b : ByteArray) (cs : List R2) (w : World) (h : Recs w A n cs) (hs : ∀ x ∈ cs, x.1.size ≤ maxLen) (hn : n ≤ 1048576) (hb : b.size ≤ maxLen) : Calls Tryd.prog 16 #[bval st A n c b] w (RoPost (okBas st cs b) cs w) := by
  have HS := Box0.mk hs
  clear hs
  have hX := C3.new w (.int .i64 st) (.slice A n c) (.string b) 35
  have hR := h.alloc (.cells #[.int .i64 st, .slice A n c, .string b] 35)
  have HN := Lib.hid h.1
  cases hv : okBas st cs b
  · go_enter Tryd.func16, Tryd.ntmps16
    go_wp2_with fail
    refine (l17Ok_eq _ st A n c b cs false _ hX hR HS.out hn hb hv).mono ?_
    rintro e w1 ⟨rfl, hb1⟩
    go_wp2_with fail
    go_ret2
    exact ⟨rfl, blaylow hb1⟩
  · have HL := Box0.mk (okBas_lays hv)
    go_enter Tryd.func16, Tryd.ntmps16
    go_wp2_with fail
    refine (l17Ok_eq _ st A n c b cs true _ hX hR HS.out hn hb hv).mono ?_
    rintro e w1 ⟨rfl, hb1⟩
    go_wp2_with fail
    refine (l17Rounds_any _ st A n c b cs _ (hX.keep hb1) (hR.keep hb1) HL.out).mono ?_
    rintro e w' ⟨rfl, rfl⟩
    go_wp2_with fail
    go_ret2
    exact ⟨by simp only [roV, if_true, HN.out]; rfl, blaylow hb1⟩
theorem implRounds_any (st : Int) (A : Option Addr) (n c : Nat) (b : ByteArray) (cs : List R2) (w : World) (h : Recs w A n cs) (hs : ∀ x ∈ cs, x.1.size ≤ maxLen) (hn : n ≤ 1048576) (hb : b.size ≤ maxLen) : Calls Tryd.prog 17 #[bval st A n c b] w (RoPost (okBas st cs b) cs w) := by
  have HS := Box0.mk hs
  clear hs
  have hX := C3.new w (.int .i64 st) (.slice A n c) (.string b) 35
  have hR := h.alloc (.cells #[.int .i64 st, .slice A n c, .string b] 35)
  have HN := Lib.hid h.1
  cases hv : okBas st cs b
  · go_enter Tryd.func17, Tryd.ntmps17
    go_wp2_with fail
    refine (implValidBasket_eq st A n c b cs false _ hR HS.out hn hb hv).mono ?_
    rintro e w1 ⟨rfl, hb1⟩
    go_wp2_with fail
    go_ret2
    exact ⟨rfl, blaylow hb1⟩
  · have HL := Box0.mk (okBas_lays hv)
    have hn40 : n ≤ 40 := by rw [← HN.out]; exact HL.out.len
    go_enter Tryd.func17, Tryd.ntmps17
    go_wp2_with fail
    refine (implValidBasket_eq st A n c b cs true _ hR HS.out hn hb hv).mono ?_
    rintro e w1 ⟨rfl, hb1⟩
    obtain ⟨c0, c1, c2⟩ := hX.keep hb1
    have hR1 := hR.keep hb1
    have hB1 : Below w.heap.size w w1 := blaylow hb1
    go_wp2_with fail
    go_loopw [4, 13] (fun s i wr => ∃ k : Nat, k ≤ n ∧ i = .int .i64 k ∧ s = .int .i64 (pre cs k) ∧ Below w1.heap.size w1 wr) (fun _ i _ => n - (intOf i).toNat)
    case atStart => exact ⟨0, Nat.zero_le _, rfl, rfl, Below.refl _ _⟩
    case round =>
    clear c0 c1 c2
    obtain ⟨k, hk, rfl, rfl, hB⟩ := hrel
    have hp := pre_bd HL.out k (by rw [HN.out]; omega)
    by_cases hlt : k < n
    · obtain ⟨a, off, x, hA, hblt, hx, hc0, hc1⟩ := (hR1.keep hB).at_ hlt
      subst hA
      have hr := HL.out.rng x (List.mem_of_getElem? hx)
      have HP := Lib.hid (pre_succ hx)
      clear hx
      go_wp2
      go_roundw
      case rel => exact ⟨k + 1, by omega, by go_num, by rw [HP.out], Below.trans hB (by have := hB.size; go_grown)⟩
      case measure => simp [intOf]; omega
    · obtain rfl : k = n := by omega
      go_wp2
      go_ret2
      exact ⟨by simp only [roV, if_true, HN.out]; rfl, belowT hB hB1⟩
end Go.Proofs.YtopefgahppfkcaaDoor
