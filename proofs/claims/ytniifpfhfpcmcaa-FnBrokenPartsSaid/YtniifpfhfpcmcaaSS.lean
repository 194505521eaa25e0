/- Contracts: comparing, marking and reading back slices of pairs. -/
import Derived.Test.YtniifpfhfpcmcaaPair
namespace Go.Proofs.Ytniifpfhfpcmcaa
open Go.RowKit
set_option linter.unusedVariables false
set_option linter.unusedSimpArgs false

theorem pair_own {w : World} {base g : Nat} {p : Int × Int} (h : w.heap[g]? = some (pairObj p)) (hb : base ≤ g) : OwnI w base (.slice (some ⟨g, 0, none⟩) 2 2) 2 [p.1, p.2] :=
  ⟨by simp, .inr ⟨g, 2, _, rfl, hb, h, Nat.le_refl _, by unfold maxLen; omega, rfl, rfl⟩⟩
theorem own_pair {w : World} {base g : Nat} {x y : Int} (h : OwnI w base (.slice (some ⟨g, 0, none⟩) 2 2) 2 [x, y]) : w.heap[g]? = some (pairObj (x, y)) := by
  rcases h.2 with ⟨h1, h2⟩ | ⟨g', cap, cur, hv, hb, hh, hc, hm, hs, ht⟩
  · simp at h1
  · have e : g = g' ∧ 2 = cap := by simpa using hv
    obtain ⟨rfl, rfl⟩ := e
    have hl : cur.toList.length = 2 := by simp; omega
    rw [List.take_of_length_le (by omega)] at ht
    have ec : cur = #[.int .i64 x, .int .i64 y] := by
      apply Array.toList_inj.1
      rw [ht]; rfl
    rw [hh, ec]; rfl
theorem OwnP.poke {w w' : World} {base : Nat} {v : Value} {n : Nat} {ps : List (Int × Int)} {r : Option Nat} (h : OwnP w base v n ps) (hg : w.grownBy w' r) (hr : ∀ g, r = some g → g < base) : OwnP w' base v n ps := by
  obtain ⟨hl, gs, h1, h2, h3, h4⟩ := h
  refine ⟨hl, gs, h1, World.ownsRow.kept h2 hg ?_, h3, fun j g p hgj hp => ?_⟩
  · cases hv : v.ownBlock with
    | none => exact .inl rfl
    | some k =>
      right
      intro e
      have := (World.ownsRow.lt h2 k hv).1
      have := hr k e.symm
      omega
  · obtain ⟨a1, a2, a3⟩ := h4 j g p hgj hp
    exact ⟨a1, a2, (hg.block g (lt_of_heap a3) (fun e => by have := hr g e.symm; omega)).trans a3⟩
/-- Pair k is replaced, in place. -/
theorem OwnP.set {w w' : World} {base n k g : Nat} {v : Value} {ps : List (Int × Int)} {p : Int × Int} {gs : List Nat} (hl : ps.length = n) (h1 : gs.length = n) (h2 : w.ownsRow base 22 1 v n (gs.map inn)) (h3 : gs.Nodup)
    (h4 : ∀ (j g : Nat) (q : Int × Int), gs[j]? = some g → ps[j]? = some q → base ≤ g ∧ v.ownBlock ≠ some g ∧ w.heap[g]? = some (pairObj q)) (hk : gs[k]? = some g) (hg : w.grownBy w' (some g)) (hp : w'.heap[g]? = some (pairObj p)) : OwnP w' base v n (ps.set k p) := by
  have hkn : k < n := by have := (List.getElem?_eq_some_iff.1 hk).1; omega
  have hpk : ps[k]? = some (ps[k]'(by omega)) := List.getElem?_eq_getElem _
  obtain ⟨b1, b2, b3⟩ := h4 k g _ hk hpk
  refine ⟨by simpa using hl, gs, h1, World.ownsRow.kept h2 hg ?_, h3, fun j g' q hgj hq => ?_⟩
  · cases hv : v.ownBlock with
    | none => exact .inl rfl
    | some m => right; rw [hv] at b2; exact b2
  · rw [List.getElem?_set] at hq
    by_cases hjk : k = j
    · subst hjk
      rw [if_pos rfl] at hq
      rw [hk] at hgj
      injection hgj with e
      subst e
      have : k < ps.length := by omega
      rw [if_pos this] at hq
      injection hq with hq
      subst hq
      exact ⟨b1, b2, hp⟩
    · rw [if_neg hjk] at hq
      obtain ⟨a1, a2, a3⟩ := h4 j g' q hgj hq
      have hne : g' ≠ g := by
        intro e
        subst e
        obtain ⟨i1, e1⟩ := List.getElem?_eq_some_iff.1 hgj
        obtain ⟨i2, e2⟩ := List.getElem?_eq_some_iff.1 hk
        exact hjk ((List.getElem_inj h3).1 (e2.trans e1.symm))
      exact ⟨a1, a2, (hg.block g' (lt_of_heap a3) (fun e => hne (by injection e))).trans a3⟩
theorem eqS_true (A B : Option Addr) (n c d : Nat) (zs : List Int) (w : World) (h : Ints w A n zs) (g : Ints w B n zs) (hn : n ≤ 1048576) : Calls Try.prog 16 #[.slice A n c, .slice B n d] w fun e w' => e = .returned (.bool true) ∧ ∃ q, w' = w.drewN q :=
  (eqInt64S_any _ _ _ _ _ _ _ _ _ h g hn hn).mono fun _ _ ⟨e, q⟩ => ⟨by rw [e]; simp, q⟩
/-- Pair k reads as two numbers. -/
theorem OwnP.ints {w : World} {base n c : Nat} {A : Option Addr} {ps : List (Int × Int)} (h : OwnP w base (.slice A n c) n ps) {k : Nat} (hk : k < n) :
    ∃ b g p, A = some ⟨b, 0, none⟩ ∧ ps[k]? = some p ∧ w.cell? ⟨b, k, none⟩ = some (.slice (some ⟨g, 0, none⟩) 2 2) ∧ Ints w (some ⟨g, 0, none⟩) 2 [p.1, p.2] := by
  obtain ⟨hl, gs, h1, h2, h3, h4⟩ := h
  have hg : gs[k]? = some (gs[k]'(by omega)) := List.getElem?_eq_getElem _
  have hp : ps[k]? = some (ps[k]'(by omega)) := List.getElem?_eq_getElem _
  obtain ⟨a1, a2, a3⟩ := h4 k _ _ hg hp
  rcases h2.2 with ⟨_, h0⟩ | ⟨b, cap, cur, hv, _⟩
  · omega
  have hv' : A = some ⟨b, 0, none⟩ ∧ c = cap := by simpa using hv
  obtain ⟨rfl, rfl⟩ := hv'
  refine ⟨b, gs[k]'(by omega), ps[k]'(by omega), rfl, hp, ?_, OwnI.ints (pair_own a3 a1)⟩
  rw [World.ownsRow.cellAt h2 k (by omega), List.getElem?_map, hg]; rfl
theorem eqSS_same (A B : Option Addr) (n c d b1 b2 : Nat) (ps : List (Int × Int)) (w : World) (h : OwnP w b1 (.slice A n c) n ps) (g : OwnP w b2 (.slice B n d) n ps) (hn : n ≤ 1048576) : Calls Try.prog 35 #[.slice A n c, .slice B n d] w fun e w' => e = .returned (.bool true) ∧ Below w.heap.size w w' := by
  have hne : ((n : Int) != (n : Int)) = false := by simp
  go_enter Try.func35, Try.ntmps35
  go_wp2
  go_loopw [5] (fun i wr => ∃ k : Nat, k ≤ n ∧ i = .int .i64 k ∧ Below w.heap.size w wr) (fun i _ => n - (intOf i).toNat)
  case atStart => exact ⟨0, Nat.zero_le _, rfl, Below.refl _ _⟩
  case round =>
    obtain ⟨k, hk, rfl, hB⟩ := hrel
    by_cases hlt : k < n
    · obtain ⟨b, g1, p, rfl, hp, hc, hi⟩ := (h.keep hB).ints hlt
      obtain ⟨b', g2, p', rfl, hp', hc', hi'⟩ := (g.keep hB).ints hlt
      obtain rfl : p = p' := by rw [hp] at hp'; injection hp'
      have k0 : (0 : Int) ≤ (k : Int) := by omega
      have k1 : (k : Int) < (n : Int) := by omega
      have Hi := Lib.hid hi
      have Hi' := Lib.hid hi'
      clear hp hp' hi hi'
      go_wp2
      go_quiet ((go_at_call 16; exact Calls.quiet_of (eqS_true _ _ _ _ _ _ _ (Hi.out.drewN _) (Hi'.out.drewN _) (by omega))))
      go_wp2
      go_roundw
      case rel => exact ⟨k + 1, by omega, by go_num, below_drewN hB _⟩
      case measure => simp [intOf]; omega
    · obtain rfl : k = n := by omega
      go_wp2
      go_ret
      exact ⟨rfl, hB⟩
/-- (q, q + 1), (q + 2, q + 3), .. -/
def rampP (q : Int) (n : Nat) : List (Int × Int) := (List.range n).map fun j : Nat => (q + 2 * j, q + 2 * j + 1)
theorem rampP_at {q : Int} {n j : Nat} (h : j < n) : (rampP q n)[j]? = some (q + 2 * j, q + 2 * j + 1) := by simp [rampP, h]
theorem rampP_len {q : Int} {n : Nat} : (rampP q n).length = n := by simp [rampP]
theorem ramp2 (q : Int) : ramp q 2 = [q, q + 1] := by simp [ramp, List.range_succ]
theorem markSS_any (A : Option Addr) (n c base : Nat) (ps : List (Int × Int)) (q : Int) (w : World) (h : OwnP w base (.slice A n c) n ps) (hb : base ≤ w.heap.size) (hn : n ≤ 1048576) (q0 : 0 ≤ q) (q1 : q ≤ 100000000000) : Calls Try.prog 36 #[.slice A n c, .int .i64 q] w fun e w' =>
    e = .returned (.int .i64 (q + 2 * n)) ∧ OwnP w' base (.slice A n c) n (rampP q n) ∧ Below base w w' := by
  have HL := Lib.hid h.1
  go_enter Try.func36, Try.ntmps36
  go_wp2
  go_loopw [1, 5] (fun p i wr => ∃ k : Nat, k ≤ n ∧ i = .int .i64 k ∧ p = .int .i64 (q + 2 * k) ∧ OwnP wr base (.slice A n c) n ((rampP q n).take k ++ ps.drop k) ∧ Below base w wr) (fun _ i _ => n - (intOf i).toNat)
  case atStart => exact ⟨0, Nat.zero_le _, rfl, by simp, by simpa using h, Below.refl _ _⟩
  case round =>
    obtain ⟨k, hk, rfl, rfl, hP, hB⟩ := hrel
    by_cases hlt : k < n
    · obtain ⟨b, g1, p, rfl, hp, hc, hi⟩ := hP.ints hlt
      have hPs := hP
      obtain ⟨hl, gs, p1, p2, p3, p4⟩ := hPs
      have hgk : gs[k]? = some (gs[k]'(by omega)) := List.getElem?_eq_getElem _
      have e0 : gs[k]'(by omega) = g1 := by
        have := World.ownsRow.cellAt p2 k (by omega)
        rw [hc, List.getElem?_map, hgk] at this
        simp [inn] at this
        exact this.symm
      rw [e0] at hgk
      obtain ⟨a1, a2, a3⟩ := p4 k g1 p hgk hp
      have Hown := Lib.hid (pair_own a3 a1)
      have Hp4 := Lib.hid p4
      have Hgk := Lib.hid hgk
      have Hl := Lib.hid hl
      have Hp1 := Lib.hid p1
      clear hp hi p4 hgk e0 hl p1 a3 hP
      go_wp2_with fail
      refine (markInt64S_any _ _ _ _ _ _ _ Hown.out (by omega) (by omega) (by omega)).mono ?_
      rintro e w2 ⟨rfl, ho2, hg2⟩
      rw [ramp2] at ho2
      have h5 := own_pair ho2
      have hgs : w2.heap.size = w2.heap.size := rfl
      have hnew := OwnP.set Hl.out Hp1.out p2 p3 Hp4.out Hgk.out hg2 h5
      have hB2 : Below base w w2 := hB.grown hg2 (Nat.le_trans hb hB.size) (fun j e => by simp [Value.ownBlock] at e; omega)
      clear hgs h5
      go_wp2_with fail
      go_roundw
      case rel =>
        refine ⟨k + 1, by omega, by go_num, by go_num, ?_, hB2⟩
        have e2 : ((rampP q n).take k ++ ps.drop k).set k (q + 2 * k, q + 2 * k + 1) = (rampP q n).take (k + 1) ++ ps.drop (k + 1) := by
          apply List.ext_getElem?
          intro j
          rw [List.getElem?_set]
          have hrl : (rampP q n).length = n := rampP_len
          have hpl := HL.out
          by_cases hj : k = j
          · subst hj
            rw [if_pos rfl, if_pos (by simp; omega), List.getElem?_append_left (by simp; omega), List.getElem?_take, if_pos (by omega), rampP_at hlt]
          · rw [if_neg hj]
            by_cases hj2 : j < k
            · rw [List.getElem?_append_left (by simp; omega), List.getElem?_append_left (by simp; omega), List.getElem?_take, List.getElem?_take, if_pos hj2, if_pos (by omega)]
            · rw [List.getElem?_append_right (by simp; omega), List.getElem?_append_right (by simp; omega)]
              simp only [List.length_take, List.getElem?_drop]
              congr 1
              omega
        rw [← e2]
        exact hnew
      case measure => simp [intOf]; omega
    · obtain rfl : k = n := by omega
      go_wp2
      go_ret
      have e1 : (rampP q k).take k ++ ps.drop k = rampP q k := by
        rw [List.take_of_length_le (by rw [rampP_len]; omega), List.drop_eq_nil_of_le (by rw [HL.out]; omega), List.append_nil]
      rw [e1] at hP
      exact ⟨rfl, hP, hB⟩
theorem heldSS_any (A : Option Addr) (n c base : Nat) (q : Int) (w : World) (h : OwnP w base (.slice A n c) n (rampP q n)) (hn : n ≤ 1048576) (q0 : 0 ≤ q) (q1 : q ≤ 100000000000) : Calls Try.prog 37 #[.slice A n c, .int .i64 q] w fun e w' => e = .returned (.int .i64 (q + 2 * n)) ∧ w = w' := by
  go_enter Try.func37, Try.ntmps37
  go_wp2
  go_loop [1, 5] (fun p i => ∃ k : Nat, k ≤ n ∧ i = .int .i64 k ∧ p = .int .i64 (q + 2 * k)) (fun _ i => n - (intOf i).toNat)
  case atStart => exact ⟨0, Nat.zero_le _, rfl, by simp⟩
  case round =>
    obtain ⟨k, hk, rfl, rfl⟩ := hrel
    by_cases hlt : k < n
    · obtain ⟨b, g1, p, rfl, hp, hc, hi⟩ := h.ints hlt
      rw [rampP_at hlt] at hp
      injection hp with hp
      subst hp
      have hr : Ints w (some ⟨g1, 0, none⟩) 2 (ramp (q + 2 * k) 2) := by rw [ramp2]; exact hi
      have Hr := Lib.hid hr
      clear hi hr
      go_wp2_with (go_at_call 32; refine (heldInt64S_ramp _ _ _ _ _ Hr.out (by omega) (by omega) (by omega)).mono ?_; rintro e w' ⟨rfl, rfl⟩)
      go_round
      case rel => exact ⟨k + 1, by omega, by go_num, by go_num⟩
      case measure => simp [intOf]; omega
    · obtain rfl : k = n := by omega
      go_wp2
      go_ret
      exact ⟨rfl, rfl⟩
end Go.Proofs.Ytniifpfhfpcmcaa
