/- SeatText: contracts and law. -/
import Derived.Test.YtgjjmgneekjapaaDoorSeat
import Derived.Test.YtgjjmgneekjapaaDoorDec
import Derived.Lib.ItoaLen
import Derived.Test.YtgjjmgneekjapaaDoorShD15
namespace Go.Proofs.YtgjjmgneekjapaaDoor
open Go.RowKit
set_option linter.unusedVariables false
set_option linter.unusedSimpArgs false

/-- A number in decimal, as a text. -/
def dtx (n : Int) : ByteArray := ⟨(Lib.decDigits n.toNat).toArray⟩
theorem decimal_any (n : Int) (w : World) (n0 : 0 ≤ n) (n1 : n < 100) : Calls Tryd.prog 29 #[.int .i64 n] w fun e w' => e = .returned (.string (dtx n)) ∧ w = w' := by
  obtain ⟨n, rfl⟩ := Int.eq_ofNat_of_zero_le n0
  have hcon := Any.strconv_FormatInt_10_small laysDec n (by omega) w
  change Calls Tryd.prog 43 _ _ (fun e w' => e = .returned (.string (dtx n)) ∧ w' = w) at hcon
  generalize dtx (n : Int) = r at hcon ⊢
  go_enter Tryd.func29, Tryd.ntmps29
  go_wp2_with fail
  refine hcon.mono ?_
  rintro e w' ⟨rfl, rfl⟩
  go_wp2_with fail
  go_ret
  exact ⟨rfl, rfl⟩
theorem decimal_quiet (n : Int) (w : World) (n0 : 0 ≤ n) (n1 : n < 100) : Calls Tryd.prog 29 #[.int .i64 n] w fun e w' => e = .returned (.string (dtx n)) ∧ w' = w := (decimal_any n w n0 n1).mono fun _ _ ⟨a, b⟩ => ⟨a, b.symm⟩
theorem decimal_eq (n : Int) (t : ByteArray) (w : World) (n0 : 0 ≤ n) (n1 : n < 100) (ht : dtx n = t) : Calls Tryd.prog 29 #[.int .i64 n] w fun e w' => e = .returned (.string t) ∧ w' = w := by
  subst ht; exact decimal_quiet n w n0 n1
theorem dtx_size {n : Int} (n1 : n ≤ 100000) : (dtx n).size ≤ 20 := by
  have : (dtx n).size = (Lib.decDigits n.toNat).length := rfl
  rw [this, Lib.decDigits_length]
  exact Lib.nDigits_le20 _ (by omega)
theorem l01Dec_i (n : Int) (w : World) (n0 : 0 < n) (n1 : n ≤ 100000) : Calls Tryd.prog 28 #[.int .i64 n] w fun e w' => e = .returned (.string (dtx n)) ∧ Below w.heap.size w w' := by
  obtain ⟨n, rfl⟩ := Int.eq_ofNat_of_zero_le (show 0 ≤ n by omega)
  exact l01Dec_any n w (by omega) (by omega)
theorem l01Dec_eq (n : Int) (t : ByteArray) (w : World) (n0 : 0 < n) (n1 : n ≤ 100000) (ht : dtx n = t) : Calls Tryd.prog 28 #[.int .i64 n] w fun e w' => e = .returned (.string t) ∧ Below w.heap.size w w' := by
  subst ht; exact l01Dec_i n w n0 n1
def seatX (f b s : Int) : ByteArray := dtx f ++ ⟨#[47]⟩ ++ dtx b ++ ⟨#[32, 98, 121, 32]⟩ ++ dtx s
def seatT (f b s : Int) : ByteArray := if okSeat f b s then seatX f b s else ⟨#[]⟩
def TxPost (t : ByteArray) (w : World) (e : Ending) (w' : World) : Prop := e = .returned (.string t) ∧ Below w.heap.size w w'
theorem validSeat_v (f b s : Int) (v : Bool) (w : World) (hv : okSeat f b s = v) : Calls Tryd.prog 24 #[.agg #[.int .i64 f, .int .i64 b, .int .i64 s]] w fun e w' => e = .returned (.bool v) ∧ Below w.heap.size w w' := by
  subst hv; exact validSeat_any f b s w
theorem l15Ok_v (f b s : Int) (v : Bool) (p : Nat) (w : World) (h0 : w.cell? ⟨p, 0, none⟩ = some (.int .i64 f)) (h1 : w.cell? ⟨p, 1, none⟩ = some (.int .i64 b)) (h2 : w.cell? ⟨p, 2, none⟩ = some (.int .i64 s)) (hv : okSeat f b s = v) :
    Calls Tryd.prog 27 #[.pointer (some ⟨p, 0, none⟩)] w fun e w' => e = .returned (.bool v) ∧ ∃ n, w' = w.drewN n := by
  subst hv; exact l15Ok_any f b s p w h0 h1 h2
theorem implSeatText_any (f b s : Int) (w : World) : Calls Tryd.prog 7 #[.agg #[.int .i64 f, .int .i64 b, .int .i64 s]] w (TxPost (seatT f b s) w) := by
  cases hv : okSeat f b s
  · have HV := Lib.hid (show seatT f b s = ⟨#[]⟩ by simp [seatT, hv])
    rw [HV.out]
    go_enter Tryd.func7, Tryd.ntmps7
    go_wp2_with fail
    refine (validSeat_v _ _ _ false _ hv).mono ?_
    rintro e w1 ⟨rfl, hb1⟩
    go_wp2_with fail
    go_ret
    exact ⟨rfl, Below.trans (by go_grown) (hb1.mono (by simp))⟩
  · have HV := Lib.hid (show seatT f b s = seatX f b s by simp [seatT, hv])
    rw [HV.out]
    obtain ⟨⟨f0, f1⟩, ⟨b0, b1⟩, ⟨s0, s1⟩, hmod⟩ := (okSeat_iff _ _ _).1 hv
    have HX := Lib.hid (show seatX f b s = dtx f ++ ⟨#[47]⟩ ++ dtx b ++ ⟨#[32, 98, 121, 32]⟩ ++ dtx s from rfl)
    obtain ⟨tf, hf, zf⟩ : ∃ t, dtx f = t ∧ t.size ≤ 20 := ⟨_, rfl, dtx_size (by omega)⟩
    obtain ⟨tb, hb, zb⟩ : ∃ t, dtx b = t ∧ t.size ≤ 20 := ⟨_, rfl, dtx_size (by omega)⟩
    obtain ⟨ts, hs, zs⟩ : ∃ t, dtx s = t ∧ t.size ≤ 20 := ⟨_, rfl, dtx_size (by omega)⟩
    rw [hf, hb, hs] at HX
    rw [HX.out]
    have n1 : ¬ 9223372036854775807 < tf.size + 1 := by omega
    have n2 : ¬ 9223372036854775807 < tf.size + 1 + tb.size := by omega
    have n3 : ¬ 9223372036854775807 < tf.size + 1 + tb.size + 4 := by omega
    have n4 : ¬ 9223372036854775807 < tf.size + 1 + tb.size + 4 + ts.size := by omega
    clear hmod
    go_enter Tryd.func7, Tryd.ntmps7
    go_wp2_with fail
    refine (validSeat_v _ _ _ true _ hv).mono ?_
    rintro e w1 ⟨rfl, hb1⟩
    have c0 : w1.cell? ⟨w.heap.size, 0, none⟩ = some (.int .i64 f) := keepc hb1 (by go_cell)
    have c1 : w1.cell? ⟨w.heap.size, 1, none⟩ = some (.int .i64 b) := keepc hb1 (by go_cell)
    have c2 : w1.cell? ⟨w.heap.size, 2, none⟩ = some (.int .i64 s) := keepc hb1 (by go_cell)
    go_wp2_with fail
    go_quiet ((go_at_call 29; exact Calls.quiet_of_same (decimal_eq _ _ _ (by omega) (by omega) (by assumption))))
    go_wp2
    go_ret
    exact ⟨rfl, below_drewN (Below.trans (by go_grown) (hb1.mono (by simp))) _⟩
theorem specSeatText_any (f b s : Int) (w : World) : Calls Tryd.prog 5 #[.agg #[.int .i64 f, .int .i64 b, .int .i64 s]] w (TxPost (seatT f b s) w) := by
  cases hv : okSeat f b s
  · have HV := Lib.hid (show seatT f b s = ⟨#[]⟩ by simp [seatT, hv])
    rw [HV.out]
    go_enter Tryd.func5, Tryd.ntmps5
    go_wp2_with fail
    refine (l15Ok_v f b s false _ _ (by go_cell) (by go_cell) (by go_cell) hv).mono ?_
    rintro e w1 ⟨rfl, k, rfl⟩
    go_wp2_with fail
    go_ret
    exact ⟨rfl, below_drewN (by go_grown) _⟩
  · have HV := Lib.hid (show seatT f b s = seatX f b s by simp [seatT, hv])
    rw [HV.out]
    obtain ⟨⟨f0, f1⟩, ⟨b0, b1⟩, ⟨s0, s1⟩, hmod⟩ := (okSeat_iff _ _ _).1 hv
    have HX := Lib.hid (show seatX f b s = dtx f ++ ⟨#[47]⟩ ++ dtx b ++ ⟨#[32, 98, 121, 32]⟩ ++ dtx s from rfl)
    obtain ⟨tf, hf, zf⟩ : ∃ t, dtx f = t ∧ t.size ≤ 20 := ⟨_, rfl, dtx_size (by omega)⟩
    obtain ⟨tb, hb, zb⟩ : ∃ t, dtx b = t ∧ t.size ≤ 20 := ⟨_, rfl, dtx_size (by omega)⟩
    obtain ⟨ts, hs, zs⟩ : ∃ t, dtx s = t ∧ t.size ≤ 20 := ⟨_, rfl, dtx_size (by omega)⟩
    rw [hf, hb, hs] at HX
    rw [HX.out]
    have n1 : ¬ 9223372036854775807 < tf.size + 1 := by omega
    have n2 : ¬ 9223372036854775807 < tf.size + 1 + tb.size := by omega
    have n3 : ¬ 9223372036854775807 < tf.size + 1 + tb.size + 4 := by omega
    have n4 : ¬ 9223372036854775807 < tf.size + 1 + tb.size + 4 + ts.size := by omega
    clear hmod
    go_enter Tryd.func5, Tryd.ntmps5
    go_wp2_with fail
    refine (l15Ok_v f b s true _ _ (by go_cell) (by go_cell) (by go_cell) hv).mono ?_
    rintro e w1 ⟨rfl, k, rfl⟩
    have c0 : (w.alloc (.cells #[.int .i64 f, .int .i64 b, .int .i64 s] 25)).cell? ⟨w.heap.size, 0, none⟩ = some (.int .i64 f) := by go_cell
    have c1 : (w.alloc (.cells #[.int .i64 f, .int .i64 b, .int .i64 s] 25)).cell? ⟨w.heap.size, 1, none⟩ = some (.int .i64 b) := by go_cell
    have c2 : (w.alloc (.cells #[.int .i64 f, .int .i64 b, .int .i64 s] 25)).cell? ⟨w.heap.size, 2, none⟩ = some (.int .i64 s) := by go_cell
    have hB : Below w.heap.size w ((w.alloc (.cells #[.int .i64 f, .int .i64 b, .int .i64 s] 25)).drewN k) := below_drewN (by go_grown) _
    replace c0 : ((w.alloc (.cells #[.int .i64 f, .int .i64 b, .int .i64 s] 25)).drewN k).cell? ⟨w.heap.size, 0, none⟩ = some (.int .i64 f) := c0
    replace c1 : ((w.alloc (.cells #[.int .i64 f, .int .i64 b, .int .i64 s] 25)).drewN k).cell? ⟨w.heap.size, 1, none⟩ = some (.int .i64 b) := c1
    replace c2 : ((w.alloc (.cells #[.int .i64 f, .int .i64 b, .int .i64 s] 25)).drewN k).cell? ⟨w.heap.size, 2, none⟩ = some (.int .i64 s) := c2
    generalize (w.alloc (.cells #[.int .i64 f, .int .i64 b, .int .i64 s] 25)).drewN k = W at *
    go_wp2_with fail
    go_region_held3 (fun w' => w'.cell? ⟨w.heap.size, 0, none⟩ = some (.int .i64 f) ∧ w'.cell? ⟨w.heap.size, 1, none⟩ = some (.int .i64 b) ∧ w'.cell? ⟨w.heap.size, 2, none⟩ = some (.int .i64 s) ∧ Below w.heap.size w w')
      (((try go_split_ands); (try dsimp only); (repeat' apply And.intro)) <;> first | assumption | exact keepd (by assumption) | exact Below.drew (by assumption) | exact keepc hb2 (by assumption) | exact belowT hb2 (by assumption))
      ((go_at_call 28; refine (l01Dec_eq _ _ _ (by omega) (by omega) (by assumption)).mono ?_; rintro e w' ⟨rfl, hb2⟩))
    all_goals
      go_wp2
      go_ret
      exact ⟨rfl, by go_split_ands; assumption⟩
theorem law_FnExactSeatText (f : Int) (_ : (Lit.int .i64 f).wf = true) (b : Int) (_ : (Lit.int .i64 b).wf = true) (s : Int) (_ : (Lit.int .i64 s).wf = true) (w : World) : Calls Tryd.prog 3 #[.agg #[.int .i64 f, .int .i64 b, .int .i64 s]] w fun e w' => e = .returned (.bool true) ∧ Below w.heap.size w w' := by
  obtain ⟨t, ht⟩ : ∃ t, seatT f b s = t := ⟨_, rfl⟩
  have htt : (t.toList == t.toList) = true := by simp
  go_enter Tryd.func3, Tryd.ntmps3
  go_wp2_with fail
  refine (toSeat_any _ _ _ _).mono ?_
  rintro e w1 ⟨rfl, hb1⟩
  go_wp2_with fail
  refine (specSeatText_any _ _ _ _).mono ?_
  rw [ht]
  rintro e w2 ⟨rfl, hb2⟩
  have hb := hb1.trans (hb2.mono hb1.size)
  have hB : Below w.heap.size w w2 := Below.trans (by go_grown) (hb.mono (by simp))
  have c0 : w2.cell? ⟨w.heap.size, 0, none⟩ = some (.int .i64 f) := keepc hb (by go_cell)
  have c1 : w2.cell? ⟨w.heap.size, 1, none⟩ = some (.int .i64 b) := keepc hb (by go_cell)
  have c2 : w2.cell? ⟨w.heap.size, 2, none⟩ = some (.int .i64 s) := keepc hb (by go_cell)
  clear hb hb1 hb2
  go_wp2_with fail
  refine (toSeat_any _ _ _ _).mono ?_
  rintro e w3 ⟨rfl, hb3⟩
  go_wp2_with fail
  refine (implSeatText_any _ _ _ _).mono ?_
  rw [ht]
  rintro e w4 ⟨rfl, hb4⟩
  go_wp2_with fail
  go_ret
  exact ⟨rfl, belowT hb4 (belowT hb3 hB)⟩
end Go.Proofs.YtgjjmgneekjapaaDoor
