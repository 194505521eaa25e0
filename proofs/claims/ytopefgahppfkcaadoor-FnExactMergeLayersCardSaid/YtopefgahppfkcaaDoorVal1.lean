/- Strokes and bends: both validities. -/
import Derived.Test.YtopefgahppfkcaaDoorBask
import Derived.Test.YtopefgahppfkcaaDoorShD17
namespace Go.Proofs.YtopefgahppfkcaaDoor
open Go.RowKit
set_option linter.unusedVariables false
set_option linter.unusedSimpArgs false

/-- All bytes are c or d, and there are 1 to m. -/
def okTwo (c d : UInt8) (m : Nat) (s : ByteArray) : Bool := s.data.toList.all (fun b => b == c || b == d) && inB (s.size : Int) 1 m
theorem dropWhile_all {α : Type} (p : α → Bool) : ∀ l : List α, l.dropWhile p = [] ↔ l.all p = true
  | [] => by simp
  | x :: l => by
    have ih := dropWhile_all p l
    cases h : p x <;> simp [List.dropWhile, h]
    simpa using ih
theorem trimS_nil (l cs : List UInt8) : Lib.trimS l cs = [] ↔ l.all (cs.contains ·) = true := by
  unfold Lib.trimS Lib.trimLeftS
  rw [dropWhile_all]
  constructor
  · intro h
    unfold Lib.trimRightS at h
    rw [List.all_reverse] at h
    have h2 : l.reverse.dropWhile (cs.contains ·) = [] := by
      cases hd : l.reverse.dropWhile (cs.contains ·) with
      | nil => rfl
      | cons x r =>
        have h3 := List.head_dropWhile_not (p := (cs.contains ·)) (l := l.reverse) (by rw [hd]; simp)
        rw [hd] at h
        simp only [List.all_cons, Bool.and_eq_true] at h
        simp only [hd, List.head_cons] at h3
        rw [h.1] at h3; exact absurd h3 (by simp)
    rw [dropWhile_all, List.all_reverse] at h2
    exact h2
  · intro h
    have h2 : l.reverse.dropWhile (cs.contains ·) = [] := by rw [dropWhile_all, List.all_reverse]; exact h
    unfold Lib.trimRightS
    rw [h2]; rfl
theorem trim_two (l : List UInt8) (c d : UInt8) : ((Lib.trimS l [c, d]) = []) ↔ l.all (fun b => b == c || b == d) = true := by
  rw [trimS_nil]
  have : (fun b => [c, d].contains b) = fun b => b == c || b == d := by
    funext b
    simp only [List.contains, List.elem]
    cases (b == c) <;> cases (b == d) <;> rfl
  rw [this]
theorem okTwo_not {c d : UInt8} {m : Nat} {s : ByteArray} (h : inB (s.size : Int) 1 m = false) : okTwo c d m s = false := by simp [okTwo, h]
theorem okTwo_in {c d : UInt8} {m : Nat} {s : ByteArray} (h : inB (s.size : Int) 1 m = true) : okTwo c d m s = s.data.toList.all (fun b => b == c || b == d) := by simp [okTwo, h]
theorem validStroke_trim (s : ByteArray) (v : Bool) (w : World) (hs : s.size ≤ maxLen) (hv : s.data.toList.all (fun b => b == 70 || b == 66) = v) : Calls Tryd.prog 55 #[.string s, .string ⟨#[70, 66]⟩] w fun e w' => ∃ r : ByteArray, e = .returned (.string r) ∧ r.toList.isEmpty = v ∧ Below w.heap.size w w' := by
  have hcon := Any.strings_Trim_laid laysTrim (by kernel_rfl) s ⟨#[70, 66]⟩ w hs (by decide) (ascii_of_all (by decide))
  change Calls Tryd.prog 55 _ _ (fun e w' => e = .returned (.string ⟨(Lib.trimS s.data.toList [70, 66]).toArray⟩) ∧ Below w.heap.size w w') at hcon
  refine hcon.mono ?_
  rintro e w' ⟨rfl, hb⟩
  refine ⟨_, rfl, ?_, hb⟩
  rw [ByteArray.toList_eq, ← hv, Bool.eq_iff_iff, List.isEmpty_iff]
  exact trim_two _ _ _
theorem validStroke_any (s : ByteArray) (w : World) (hs : s.size ≤ maxLen) : Calls Tryd.prog 45 #[.string s] w fun e w' => e = .returned (.bool (okTwo 70 66 12 s)) ∧ Below w.heap.size w w' := by
  have hs2 := hs
  unfold maxLen at hs2
  cases h1 : inB (s.size : Int) 1 12
  · rw [okTwo_not h1]
    rcases (inB_not _ _ _).1 h1 with h2 | h2
    · clear h1
      go_enter Tryd.func45, Tryd.ntmps45
      go_wp2_with fail
      go_ret
      exact ⟨rfl, Below.refl _ _⟩
    · clear h1
      have h3 : ¬ (s.size : Int) < 1 := by omega
      go_enter Tryd.func45, Tryd.ntmps45
      go_wp2_with fail
      go_ret
      exact ⟨rfl, Below.refl _ _⟩
  · rw [okTwo_in h1]
    obtain ⟨h2, h3⟩ := (inB_iff _ _ _).1 h1
    clear h1
    cases hv : s.data.toList.all (fun b => b == 70 || b == 66)
    all_goals
      have HV := Lib.hid hv
      clear hv
      go_enter Tryd.func45, Tryd.ntmps45
      go_wp2_with fail
      refine (validStroke_trim s _ _ hs HV.out).mono ?_
      rintro e w' ⟨r, rfl, hr, hb⟩
      go_wp2_with fail
      go_ret
      exact ⟨rfl, hb⟩
theorem validBends_trim (s : ByteArray) (v : Bool) (w : World) (hs : s.size ≤ maxLen) (hv : s.data.toList.all (fun b => b == 98 || b == 102) = v) : Calls Tryd.prog 55 #[.string s, .string ⟨#[98, 102]⟩] w fun e w' => ∃ r : ByteArray, e = .returned (.string r) ∧ r.toList.isEmpty = v ∧ Below w.heap.size w w' := by
  have hcon := Any.strings_Trim_laid laysTrim (by kernel_rfl) s ⟨#[98, 102]⟩ w hs (by decide) (ascii_of_all (by decide))
  change Calls Tryd.prog 55 _ _ (fun e w' => e = .returned (.string ⟨(Lib.trimS s.data.toList [98, 102]).toArray⟩) ∧ Below w.heap.size w w') at hcon
  refine hcon.mono ?_
  rintro e w' ⟨rfl, hb⟩
  refine ⟨_, rfl, ?_, hb⟩
  rw [ByteArray.toList_eq, ← hv, Bool.eq_iff_iff, List.isEmpty_iff]
  exact trim_two _ _ _
theorem validBends_any (s : ByteArray) (w : World) (hs : s.size ≤ maxLen) : Calls Tryd.prog 46 #[.string s] w fun e w' => e = .returned (.bool (okTwo 98 102 8 s)) ∧ Below w.heap.size w w' := by
  have hs2 := hs
  unfold maxLen at hs2
  cases h1 : inB (s.size : Int) 1 8
  · rw [okTwo_not h1]
    rcases (inB_not _ _ _).1 h1 with h2 | h2
    · clear h1
      go_enter Tryd.func46, Tryd.ntmps46
      go_wp2_with fail
      go_ret
      exact ⟨rfl, Below.refl _ _⟩
    · clear h1
      have h3 : ¬ (s.size : Int) < 1 := by omega
      go_enter Tryd.func46, Tryd.ntmps46
      go_wp2_with fail
      go_ret
      exact ⟨rfl, Below.refl _ _⟩
  · rw [okTwo_in h1]
    obtain ⟨h2, h3⟩ := (inB_iff _ _ _).1 h1
    clear h1
    cases hv : s.data.toList.all (fun b => b == 98 || b == 102)
    all_goals
      have HV := Lib.hid hv
      clear hv
      go_enter Tryd.func46, Tryd.ntmps46
      go_wp2_with fail
      refine (validBends_trim s _ _ hs HV.out).mono ?_
      rintro e w' ⟨r, rfl, hr, hb⟩
      go_wp2_with fail
      go_ret
      exact ⟨rfl, hb⟩
def TwoTill (c d : UInt8) (s : ByteArray) (k : Nat) : Prop := ∀ (j : Nat) (h : j < s.size), j < k → ((s[j].toNat : Int) = c.toNat ∨ (s[j].toNat : Int) = d.toNat)
theorem two_bt {c x : UInt8} : ((x.toNat : Int) = c.toNat) ↔ (x == c) = true := by
  rw [beq_iff_eq]
  constructor
  · intro h; exact UInt8.toNat_inj.1 (by omega)
  · intro h; rw [h]
theorem two_all {c d : UInt8} {s : ByteArray} (h : TwoTill c d s s.size) : s.data.toList.all (fun b => b == c || b == d) = true := by
  rw [List.all_eq_true]
  intro b hb
  obtain ⟨j, hj, rfl⟩ := List.mem_iff_getElem.1 hb
  have := h j (by simpa using hj) (by simpa using hj)
  rw [Bool.or_eq_true]
  rcases this with h1 | h1
  · exact .inl (two_bt.1 h1)
  · exact .inr (two_bt.1 h1)
theorem two_bad {c d : UInt8} {m : Nat} {s : ByteArray} {k : Nat} (hk : k < s.size) (h1 : ¬ (s[k].toNat : Int) = c.toNat) (h2 : ¬ (s[k].toNat : Int) = d.toNat) : okTwo c d m s = false := by
  unfold okTwo
  rw [Bool.and_eq_false_iff]
  left
  rw [List.all_eq_false]
  refine ⟨s[k], by rw [List.mem_iff_getElem]; exact ⟨k, by simpa using hk, rfl⟩, ?_⟩
  intro h
  rw [Bool.or_eq_true] at h
  rcases h with h | h
  · exact h1 (two_bt.2 h)
  · exact h2 (two_bt.2 h)
theorem two_succ {c d : UInt8} {s : ByteArray} {k : Nat} (hk : k < s.size) (h : TwoTill c d s k) (h1 : (s[k].toNat : Int) = c.toNat ∨ (s[k].toNat : Int) = d.toNat) : TwoTill c d s (k + 1) := fun j hj hlt => by
  rcases Nat.lt_succ_iff_lt_or_eq.1 hlt with h2 | rfl
  · exact h j hj h2
  · exact h1
theorem l06Ok_any (s : ByteArray) (w : World) (hs : s.size ≤ maxLen) : Calls Tryd.prog 52 #[.string s] w fun e w' => e = .returned (.bool (okTwo 70 66 12 s)) ∧ w = w' := by
  unfold maxLen at hs
  go_enter Tryd.func52, Tryd.ntmps52
  go_wp2
  go_loop [3] (fun i => ∃ k : Nat, k ≤ s.size ∧ i = .int .i64 k ∧ TwoTill 70 66 s k) (fun i => s.size - (intOf i).toNat)
  case atStart => exact ⟨0, Nat.zero_le _, rfl, fun _ _ h => absurd h (by omega)⟩
  case round =>
    obtain ⟨k, hk, rfl, ha⟩ := hrel
    have HA := Box0.mk ha
    clear ha
    by_cases hlt : k < s.size
    · by_cases c1 : (s[k].toNat : Int) = 70
      · have t1 : ((s[k].toNat : Int) != 70) = false := by rw [c1]; rfl
        have HR := Box0.mk (two_succ hlt HA.out (.inl c1))
        clear c1
        go_wp2
        go_round
        case rel => exact ⟨k + 1, by omega, by go_num, HR.out⟩
        case measure => simp [intOf]; omega
      have t1 : ((s[k].toNat : Int) != 70) = true := by rw [bne_iff_ne]; exact c1
      by_cases c2 : (s[k].toNat : Int) = 66
      · have t2 : ((s[k].toNat : Int) != 66) = false := by rw [c2]; rfl
        have HR := Box0.mk (two_succ hlt HA.out (.inr c2))
        clear c2 c1
        go_wp2
        go_round
        case rel => exact ⟨k + 1, by omega, by go_num, HR.out⟩
        case measure => simp [intOf]; omega
      · have t2 : ((s[k].toNat : Int) != 66) = true := by rw [bne_iff_ne]; exact c2
        have HB := Lib.hid (two_bad (c := 70) (d := 66) (m := 12) hlt c1 c2)
        clear c2 c1
        go_wp2
        go_ret
        exact ⟨ret_bool HB.out.symm, rfl⟩
    · obtain rfl : k = s.size := by omega
      have HB := Lib.hid (two_all HA.out)
      go_wp2_with (go_at_call 24; refine (l00In_any _ _ _ _).mono ?_; rintro e w' ⟨rfl, rfl⟩)
      go_ret
      exact ⟨ret_bool (by unfold okTwo; rw [HB.out]; rfl), rfl⟩
theorem l11Ok_any (s : ByteArray) (w : World) (hs : s.size ≤ maxLen) : Calls Tryd.prog 53 #[.string s] w fun e w' => e = .returned (.bool (okTwo 98 102 8 s)) ∧ w = w' := by
  unfold maxLen at hs
  go_enter Tryd.func53, Tryd.ntmps53
  go_wp2
  go_loop [3] (fun i => ∃ k : Nat, k ≤ s.size ∧ i = .int .i64 k ∧ TwoTill 98 102 s k) (fun i => s.size - (intOf i).toNat)
  case atStart => exact ⟨0, Nat.zero_le _, rfl, fun _ _ h => absurd h (by omega)⟩
  case round =>
    obtain ⟨k, hk, rfl, ha⟩ := hrel
    have HA := Box0.mk ha
    clear ha
    by_cases hlt : k < s.size
    · by_cases c1 : (s[k].toNat : Int) = 98
      · have t1 : ((s[k].toNat : Int) != 98) = false := by rw [c1]; rfl
        have HR := Box0.mk (two_succ hlt HA.out (.inl c1))
        clear c1
        go_wp2
        go_round
        case rel => exact ⟨k + 1, by omega, by go_num, HR.out⟩
        case measure => simp [intOf]; omega
      have t1 : ((s[k].toNat : Int) != 98) = true := by rw [bne_iff_ne]; exact c1
      by_cases c2 : (s[k].toNat : Int) = 102
      · have t2 : ((s[k].toNat : Int) != 102) = false := by rw [c2]; rfl
        have HR := Box0.mk (two_succ hlt HA.out (.inr c2))
        clear c2 c1
        go_wp2
        go_round
        case rel => exact ⟨k + 1, by omega, by go_num, HR.out⟩
        case measure => simp [intOf]; omega
      · have t2 : ((s[k].toNat : Int) != 102) = true := by rw [bne_iff_ne]; exact c2
        have HB := Lib.hid (two_bad (c := 98) (d := 102) (m := 8) hlt c1 c2)
        clear c2 c1
        go_wp2
        go_ret
        exact ⟨ret_bool HB.out.symm, rfl⟩
    · obtain rfl : k = s.size := by omega
      have HB := Lib.hid (two_all HA.out)
      go_wp2_with (go_at_call 24; refine (l00In_any _ _ _ _).mono ?_; rintro e w' ⟨rfl, rfl⟩)
      go_ret
      exact ⟨ret_bool (by unfold okTwo; rw [HB.out]; rfl), rfl⟩
theorem l06Stakes_any (n : Int) (w : World) : Calls Tryd.prog 51 #[.int .i64 n] w fun e w' => e = .returned (.bool (inB n 3 60)) ∧ w = w' := by
  go_enter Tryd.func51, Tryd.ntmps51
  go_wp2_with (go_at_call 24; refine (l00In_any _ _ _ _).mono ?_; rintro e w' ⟨rfl, rfl⟩)
  go_ret
  exact ⟨rfl, rfl⟩
theorem l11Stakes_any (s : ByteArray) (n : Int) (w : World) (hs : s.size ≤ 8) : Calls Tryd.prog 54 #[.string s, .int .i64 n] w fun e w' => e = .returned (.bool (inB n ((s.size : Int) + 2) 40)) ∧ w = w' := by
  go_enter Tryd.func54, Tryd.ntmps54
  go_wp2_with (go_at_call 24; refine (l00In_any _ _ _ _).mono ?_; rintro e w' ⟨rfl, rfl⟩)
  go_ret
  exact ⟨rfl, rfl⟩
theorem validBends_eq (s : ByteArray) (v : Bool) (w : World) (hs : s.size ≤ maxLen) (hv : okTwo 98 102 8 s = v) : Calls Tryd.prog 46 #[.string s] w fun e w' => e = .returned (.bool v) ∧ Below w.heap.size w w' := by
  subst hv; exact validBends_any s w hs
theorem validStroke_eq (s : ByteArray) (v : Bool) (w : World) (hs : s.size ≤ maxLen) (hv : okTwo 70 66 12 s = v) : Calls Tryd.prog 45 #[.string s] w fun e w' => e = .returned (.bool v) ∧ Below w.heap.size w w' := by
  subst hv; exact validStroke_any s w hs
theorem l06Ok_eq (s : ByteArray) (v : Bool) (w : World) (hs : s.size ≤ maxLen) (hv : okTwo 70 66 12 s = v) : Calls Tryd.prog 52 #[.string s] w fun e w' => e = .returned (.bool v) ∧ Below w.heap.size w w' := by
  subst hv
  refine (l06Ok_any s w hs).mono ?_
  rintro e w' ⟨rfl, rfl⟩
  exact ⟨rfl, Below.refl _ _⟩
theorem l11Ok_eq (s : ByteArray) (v : Bool) (w : World) (hs : s.size ≤ maxLen) (hv : okTwo 98 102 8 s = v) : Calls Tryd.prog 53 #[.string s] w fun e w' => e = .returned (.bool v) ∧ Below w.heap.size w w' := by
  subst hv
  refine (l11Ok_any s w hs).mono ?_
  rintro e w' ⟨rfl, rfl⟩
  exact ⟨rfl, Below.refl _ _⟩
theorem okTwo_size {c d : UInt8} {m : Nat} {s : ByteArray} (h : okTwo c d m s = true) : 1 ≤ s.size ∧ s.size ≤ m := by
  unfold okTwo at h
  rw [Bool.and_eq_true, inB_iff] at h
  omega
/-- The code 'bendCode' of a valid word at stake 0: 0 just if the stakes fit. -/
theorem bendCode_any (s : ByteArray) (n : Int) (v : Bool) (w : World) (hs : okTwo 98 102 8 s = true) (n3 : 3 ≤ n) (n60 : n ≤ 60) (hv : inB n ((s.size : Int) + 2) 40 = v) : Calls Tryd.prog 47 #[.string s, .int .i64 n, .int .i64 0] w fun e w' => e = .returned (.int .i64 (if v then 0 else 2)) ∧ Below w.heap.size w w' := by
  obtain ⟨l1, l2⟩ := okTwo_size hs
  have HS := Lib.hid hs
  clear hs
  have h0 : inB 0 0 (n - 1) = true := (inB_iff _ _ _).2 ⟨by omega, by omega⟩
  cases v
  all_goals
    have HV := Lib.hid hv
    clear hv
    go_enter Tryd.func47, Tryd.ntmps47
    go_wp2_with fail
    refine (validBends_eq s true _ (by unfold maxLen; omega) HS.out).mono ?_
    rintro e w' ⟨rfl, hb⟩
    go_wp2_with (go_at_call 26; refine (within_eq _ _ _ _ _ (by first | exact HV.out | exact h0)).mono ?_; rintro e w' ⟨rfl, rfl⟩)
    go_ret
    exact ⟨rfl, hb⟩
end Go.Proofs.YtopefgahppfkcaaDoor
