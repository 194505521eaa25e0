/- BreakStake: contracts and law. -/
import Derived.Test.YtniifpfhfpcmcaaSrch
namespace Go.Proofs.Ytniifpfhfpcmcaa
open Go.RowKit
set_option linter.unusedVariables false
set_option linter.unusedSimpArgs false

/-- A copy of a slice of integers. -/
theorem l00Own_any (A : Option Addr) (n c : Nat) (zs : List Int) (w : World) (h : Ints w A n zs) (hn : n ≤ 1048576) : Calls Try.prog 59 #[.slice A n c] w fun e w' =>
    ∃ C p, e = .returned (.slice C n p) ∧ OwnI w' w.heap.size (.slice C n p) n zs ∧ Below w.heap.size w w' := by
  obtain ⟨i0, hi0, hz0, hz1, hz2⟩ := info_parts info_i64
  have HL := Lib.hid h.1
  have hb0 : Below w.heap.size w (w.alloc (.cells #[] 2)) := (Below.refl _ _).alloc (Nat.le_refl _) _
  rcases Nat.eq_zero_or_pos n with rfl | hp
  · have hz : zs = [] := List.eq_nil_of_length_eq_zero HL.out
    subst hz
    cases A with
    | none =>
      go_enter Try.func59, Try.ntmps59
      go_wp2
      go_ret
      exact ⟨_, _, rfl, World.ownsRow_made _ _ _ (by simp) (by unfold maxLen; omega) (by simp), by (repeat' (first | (with_reducible exact Below.refl _ _) | (with_reducible assumption) | (with_reducible refine Below.drew ?_) | (with_reducible refine below_drewN ?_ _) | (with_reducible refine Below.setCell ?_ ?_ _) | (with_reducible refine Below.alloc ?_ ?_ _) | go_size))⟩
    | some a =>
      go_enter Try.func59, Try.ntmps59
      go_wp2
      go_ret
      exact ⟨_, _, rfl, World.ownsRow_made _ _ _ (by simp) (by unfold maxLen; omega) (by simp), by (repeat' (first | (with_reducible exact Below.refl _ _) | (with_reducible assumption) | (with_reducible refine Below.drew ?_) | (with_reducible refine below_drewN ?_ _) | (with_reducible refine Below.setCell ?_ ?_ _) | (with_reducible refine Below.alloc ?_ ?_ _) | go_size))⟩
  obtain ⟨b, off, rfl, hlt, hc⟩ := h.2 hp
  have HC := Lib.hid hc
  clear hc
  go_enter Try.func59, Try.ntmps59
  go_wp2_with (at_builtin; refine wpList_append_own _ rfl _ _ 22 rfl w.heap.size 2 i0 (.int .i64 0) 1 8 Try.underlying22 hi0 hz0 hz1 hz2 rfl (by decide) _ _ _ rfl (World.ownsRow_made w #[] 0 (Nat.le_refl _) (Nat.zero_le _) rfl) ⟨b, off, none⟩ n c (zs.map (Value.int .i64)) rfl ?qc1 ?qc2 ?qc3 ?qc4 ?qc5 ?qc6 ?_)
  case qc1 => simp [HL.out]
  case qc2 =>
    intro j u hj
    rw [List.getElem?_map] at hj
    obtain ⟨z, hz, rfl⟩ := Option.map_eq_some_iff.1 hj
    rw [Addr.add_lit]
    exact keepc hb0 (HC.out j z hz)
  case qc3 => intro u hu; obtain ⟨x, _, rfl⟩ := List.mem_map.1 hu; rfl
  case qc4 => unfold maxLen; omega
  case qc5 => omega
  case qc6 => simp
  intro v' w1 hown hgrow hnil
  go_wp2
  go_ret
  have hown' : OwnI w1 w.heap.size v' n zs := by simpa using hown
  have hBf := hb0.grown hgrow (by simp) (by intro k hk; simp [Value.ownBlock] at hk; omega)
  rcases hown'.2 with ⟨h1, h2⟩ | ⟨g, cap, cur, hv, _⟩
  · omega
  · subst hv
    exact ⟨_, _, rfl, hown', hBf⟩

theorem shape_new (w : World) (v : Value) (t : TypeId) : (w.alloc (.cells #[v] t)).shape? w.heap.size = some (t, 1) := by
  have h : (w.alloc (.cells #[v] t)).heap[w.heap.size]? = some (.cells #[v] t) := by show (w.heap.push _)[w.heap.size]? = some _; exact Array.getElem?_push_size
  unfold World.shape?
  rw [h]; rfl
theorem putS_is {zs : List Int} {x : Int} {i : Nat} (h1 : ∀ (j : Nat) (z : Int), j < i → zs[j]? = some z → z < x) (h2 : ∀ (j : Nat) (z : Int), i ≤ j → zs[j]? = some z → x ≤ z) (hn : hasI zs x = false) : putS zs x = zs.take i ++ x :: zs.drop i := by
  rw [putS_skip i h1]
  congr 1
  cases hd : zs.drop i with
  | nil => rfl
  | cons y ys =>
    have e0 : (zs.drop i)[0]? = zs[i + 0]? := List.getElem?_drop
    have hy : zs[i]? = some y := by rw [hd] at e0; simpa using e0.symm
    have hle := h2 i y (Nat.le_refl _) hy
    have hne : y ≠ x := fun e => by rw [hasI_yes hy e] at hn; cases hn
    rw [putS, if_neg (by omega), if_neg hne]
theorem putS_len : ∀ (zs : List Int) (x : Int), (putS zs x).length ≤ zs.length + 1
  | [], x => by simp [putS]
  | z :: zs, x => by
    have := putS_len zs x
    unfold putS
    split
    · simp; omega
    · split <;> simp
def breakV (s : Int) (zs : List Int) (x : Int) : List Int × Int := if okBrok s zs then (if inB x 0 (s - 1) then (if hasI zs x then ([], 4) else (putS zs x, 0)) else ([], 2)) else ([], 1)
theorem breakV_len (s : Int) (zs : List Int) (x : Int) : (breakV s zs x).1.length ≤ 61 := by
  unfold breakV
  split
  · rename_i ho
    obtain ⟨t, rfl, t0, t1, hr⟩ := ris_ok ho
    split
    · split
      · simp
      · have := putS_len zs x; have := hr.len; simp only; omega
    · simp
  · simp
def BreakPost (s : Int) (zs : List Int) (x : Int) (w : World) (e : Ending) (w' : World) : Prop :=
  ∃ C q p, e = .returned (.tuple #[.slice C q p, .int .i64 (breakV s zs x).2]) ∧ OwnI w' w.heap.size (.slice C q p) q (breakV s zs x).1 ∧ Below w.heap.size w w'
theorem OwnI.low {w : World} {base base' : Nat} {v : Value} {n : Nat} {zs : List Int} (h : OwnI w base v n zs) (hb : base' ≤ base) : OwnI w base' v n zs := by
  refine ⟨h.1, ?_⟩
  rcases h.2 with h2 | ⟨g, cap, cur, hv, hg, h3⟩
  · exact .inl h2
  · exact .inr ⟨g, cap, cur, hv, Nat.le_trans hb hg, h3⟩
set_option maxHeartbeats 1000000 in
theorem implBreak_any (s : Int) (A : Option Addr) (n c : Nat) (zs : List Int) (x : Int) (w : World) (h : Ints w A n zs) (hn : n ≤ 1048576) : Calls Try.prog 29 #[.int .i64 s, .slice A n c, .int .i64 x] w (BreakPost s zs x w) := by
  unfold BreakPost
  cases ho : okBrok s zs
  · have hv : breakV s zs x = ([], 1) := by simp [breakV, ho]
    rw [hv]
    clear hv
    go_enter Try.func29, Try.ntmps29
    go_wp2_with (go_at_call 15; refine (implValidBroken_eq _ _ _ _ _ _ _ h hn ho).mono ?_; rintro e w' ⟨rfl, q1, rfl⟩)
    go_ret2
    exact ⟨none, 0, 0, rfl, World.ownsRow_nil _ _ _ _, by (repeat' (first | (with_reducible exact Below.refl _ _) | (with_reducible assumption) | (with_reducible refine Below.drew ?_) | (with_reducible refine below_drewN ?_ _) | (with_reducible refine Below.setCell ?_ ?_ _) | (with_reducible refine Below.alloc ?_ ?_ _) | go_size))⟩
  cases g1 : inB x 0 (s - 1)
  · have hv : breakV s zs x = ([], 2) := by simp [breakV, ho, g1]
    rw [hv]
    clear hv
    have hs := okBrok_iff.1 ho
    go_enter Try.func29, Try.ntmps29
    go_wp2_with (first | (go_at_call 15; refine (implValidBroken_eq _ _ _ _ _ _ _ h hn ho).mono ?_; rintro e w' ⟨rfl, q1, rfl⟩) | ((go_at_call 48; refine (within_any _ _ _ _).mono ?_; rintro e w' ⟨rfl, rfl⟩)))
    go_ret2
    exact ⟨none, 0, 0, rfl, World.ownsRow_nil _ _ _ _, by (repeat' (first | (with_reducible exact Below.refl _ _) | (with_reducible assumption) | (with_reducible refine Below.drew ?_) | (with_reducible refine below_drewN ?_ _) | (with_reducible refine Below.setCell ?_ ?_ _) | (with_reducible refine Below.alloc ?_ ?_ _) | go_size))⟩
  have HL := Lib.hid h.1
  obtain ⟨t, rfl, t0, t1, hr⟩ := ris_ok ho
  have hn60 : n ≤ 60 := by have := hr.len; have := HL.out; omega
  cases hh : hasI zs x
  · have hv : breakV t zs x = (putS zs x, 0) := by simp [breakV, ho, g1, hh]
    rw [hv]
    clear hv
    go_enter Try.func29, Try.ntmps29
    go_wp2_with (first | (go_at_call 15; refine (implValidBroken_eq _ _ _ _ _ _ _ h hn ho).mono ?_; rintro e w' ⟨rfl, q1, rfl⟩) | (go_at_call 48; refine (within_any _ _ _ _).mono ?_; rintro e w' ⟨rfl, rfl⟩))
    refine (search_any _ _ _ _ _ _ (h.drewN _) hn hr.pw).mono ?_
    rintro e w2 ⟨i, hi, rfl, h1, h2, q2, rfl⟩
    rw [hh]
    have HP := Lib.hid (putS_is h1 h2 hh)
    have HI := Lib.hid h1
    have HJ := Lib.hid h2
    clear h1 h2
    go_wp2_with fail
    refine (cloneI_any _ _ _ _ _ (h.drewN _) hn).mono ?_
    rintro e w3 ⟨C, p, rfl, hO, hb3⟩
    have hB3 := belowT hb3 (drew_below w _)
    have hlt := OwnI.lt hO
    go_wp2_with fail
    have hB4 := hB3.alloc hB3.size (.cells #[.int .i64 x] 2)
    refine (insert_any _ _ _ _ _ w3.heap.size _ x _ (OwnI.keep hO ((Below.refl _ _).alloc (Nat.le_refl _) (.cells #[.int .i64 x] 2))) hi (by omega) (Nat.le_trans hb3.size (by rw [World.size_alloc]; omega)) (by go_cell) ⟨2, shape_new _ _ _⟩ (by simp) (by simp) (fun e => by have := (hlt _ e).2; omega)).mono ?_
    rintro e w5 ⟨C2, p2, rfl, hO2, hb5⟩
    go_wp2_with fail
    go_ret2
    rw [HP.out]
    exact ⟨_, _, _, rfl, hO2, hB4.trans hb5⟩
  · have hv : breakV t zs x = ([], 4) := by simp [breakV, ho, g1, hh]
    rw [hv]
    clear hv
    go_enter Try.func29, Try.ntmps29
    go_wp2_with (first | (go_at_call 15; refine (implValidBroken_eq _ _ _ _ _ _ _ h hn ho).mono ?_; rintro e w' ⟨rfl, q1, rfl⟩) | (go_at_call 48; refine (within_any _ _ _ _).mono ?_; rintro e w' ⟨rfl, rfl⟩))
    refine (search_any _ _ _ _ _ _ (h.drewN _) hn hr.pw).mono ?_
    rintro e w2 ⟨i, hi, rfl, h1, h2, q2, rfl⟩
    rw [hh]
    clear h1 h2
    go_wp2_with fail
    go_ret2
    exact ⟨none, 0, 0, rfl, World.ownsRow_nil _ _ _ _, drew_below w _⟩
set_option maxHeartbeats 1000000 in
theorem specBreak_any (s : Int) (A : Option Addr) (n c : Nat) (zs : List Int) (x : Int) (w : World) (h : Ints w A n zs) (hn : n ≤ 1048576) : Calls Try.prog 38 #[.int .i64 s, .slice A n c, .int .i64 x] w (BreakPost s zs x w) := by
  unfold BreakPost
  cases ho : okBrok s zs
  · have hv : breakV s zs x = ([], 1) := by simp [breakV, ho]
    rw [hv]
    clear hv
    go_enter Try.func38, Try.ntmps38
    go_wp2_with (go_at_call 41; refine (l16Ok_eq _ _ _ _ _ _ _ h hn ho).mono ?_; rintro e w' ⟨rfl, q1, rfl⟩)
    go_ret2
    exact ⟨none, 0, 0, rfl, World.ownsRow_nil _ _ _ _, by (repeat' (first | (with_reducible exact Below.refl _ _) | (with_reducible assumption) | (with_reducible refine Below.drew ?_) | (with_reducible refine below_drewN ?_ _) | (with_reducible refine Below.setCell ?_ ?_ _) | (with_reducible refine Below.alloc ?_ ?_ _) | go_size))⟩
  cases g1 : inB x 0 (s - 1)
  · have hv : breakV s zs x = ([], 2) := by simp [breakV, ho, g1]
    rw [hv]
    clear hv
    have hs := okBrok_iff.1 ho
    go_enter Try.func38, Try.ntmps38
    go_wp2_with (first | (go_at_call 41; refine (l16Ok_eq _ _ _ _ _ _ _ h hn ho).mono ?_; rintro e w' ⟨rfl, q1, rfl⟩) | ((go_at_call 57; refine (l00In_any _ _ _ _).mono ?_; rintro e w' ⟨rfl, rfl⟩)))
    go_ret2
    exact ⟨none, 0, 0, rfl, World.ownsRow_nil _ _ _ _, by (repeat' (first | (with_reducible exact Below.refl _ _) | (with_reducible assumption) | (with_reducible refine Below.drew ?_) | (with_reducible refine below_drewN ?_ _) | (with_reducible refine Below.setCell ?_ ?_ _) | (with_reducible refine Below.alloc ?_ ?_ _) | go_size))⟩
  have HL := Lib.hid h.1
  obtain ⟨t, rfl, t0, t1, hr⟩ := ris_ok ho
  have hn60 : n ≤ 60 := by have := hr.len; have := HL.out; omega
  cases hh : hasI zs x
  · have hv : breakV t zs x = (putS zs x, 0) := by simp [breakV, ho, g1, hh]
    rw [hv]
    clear hv
    go_enter Try.func38, Try.ntmps38
    go_wp2_with (first | (go_at_call 41; refine (l16Ok_eq _ _ _ _ _ _ _ h hn ho).mono ?_; rintro e w' ⟨rfl, q1, rfl⟩) | (go_at_call 57; refine (l00In_any _ _ _ _).mono ?_; rintro e w' ⟨rfl, rfl⟩) | (go_at_call 55; refine (l00Has_eq _ _ _ _ _ _ _ (h.drewN _) hn hh).mono ?_; rintro e w' ⟨rfl, rfl⟩))
    refine (l00Own_any _ _ _ _ _ (h.drewN _) hn).mono ?_
    rintro e w3 ⟨C, p, rfl, hO, hb3⟩
    have hB3 := belowT hb3 (drew_below w _)
    go_wp2_with fail
    refine (l00Put_any _ _ _ _ _ _ (OwnI.ints hO) (by omega)).mono ?_
    rintro e w5 ⟨C2, q2, p2, rfl, hO2, hb5⟩
    go_wp2_with fail
    go_ret2
    exact ⟨_, _, _, rfl, OwnI.low hO2 hB3.size, belowT hb5 hB3⟩
  · have hv : breakV t zs x = ([], 4) := by simp [breakV, ho, g1, hh]
    rw [hv]
    clear hv
    go_enter Try.func38, Try.ntmps38
    go_wp2_with (first | (go_at_call 41; refine (l16Ok_eq _ _ _ _ _ _ _ h hn ho).mono ?_; rintro e w' ⟨rfl, q1, rfl⟩) | (go_at_call 57; refine (l00In_any _ _ _ _).mono ?_; rintro e w' ⟨rfl, rfl⟩) | (go_at_call 55; refine (l00Has_eq _ _ _ _ _ _ _ (h.drewN _) hn hh).mono ?_; rintro e w' ⟨rfl, rfl⟩))
    go_ret2
    exact ⟨none, 0, 0, rfl, World.ownsRow_nil _ _ _ _, by (repeat' (first | (with_reducible exact Below.refl _ _) | (with_reducible assumption) | (with_reducible refine Below.drew ?_) | (with_reducible refine below_drewN ?_ _) | (with_reducible refine Below.setCell ?_ ?_ _) | (with_reducible refine Below.alloc ?_ ?_ _) | go_size))⟩
theorem law_FnExactBreakStake (w : World) (s : Int) (_ : (Lit.int .i64 s).wf = true) (A : Option Addr) (n c : Nat) (zs : List Int) (h0 : IsInts .i64 w A n zs) (x : Int) (_ : (Lit.int .i64 x).wf = true) : Calls Try.prog 9 #[.int .i64 s, .slice A n c, .int .i64 x] w fun e w' => e = .returned (.bool true) ∧ Below w.heap.size w w' := by
  have hm1 := h0.1
  unfold maxLen at hm1
  by_cases hbig : 1048576 < n
  · have h' : (1048576 : Int) < (n : Int) := by omega
    go_enter Try.func9, Try.ntmps9
    go_wp2
    go_ret
    exact ⟨rfl, Below.refl _ _⟩
  have hn : n ≤ 1048576 := by omega
  have h' : ¬ (1048576 : Int) < (n : Int) := by omega
  clear hbig
  have h := h0.ints
  have HL := Lib.hid (breakV_len s zs x)
  have hB := Below.refl w.heap.size w
  go_enter Try.func9, Try.ntmps9
  (go_wp2_with fail; refine (toInt64S_any _ _ _ _ _ (Ints.keep h hB) hn).mono ?_; rintro e w' ⟨rfl, ha, hb⟩; have hl := OwnI.lt ha _ rfl; (have hz := hb.size; (try replace ha := OwnI.keep ha hb); (try replace hc := OwnI.keep hc hb); (try replace hx := OwnI.keep hx hb); (try replace hy := OwnI.keep hy hb); (try replace hs := OwnI.keep hs hb); (try replace hg := OwnI.keep hg hb); (try replace hd := OwnI.keep hd hb); replace hB := belowT hb hB; clear hb))
  go_wp2_with fail
  refine (specBreak_any _ _ _ _ _ _ _ (OwnI.ints ha) hn).mono ?_
  rintro e w' ⟨C, q, p, rfl, hs, hb⟩
  have hq' : q ≤ 61 := by rw [← OwnI.len hs]; exact HL.out
  have hq : q ≤ 1048576 := by omega
  have s1 := fun g hg => (OwnI.lt hs g hg).2
  (have hz := hb.size; (try replace ha := OwnI.keep ha hb); (try replace hc := OwnI.keep hc hb); (try replace hx := OwnI.keep hx hb); (try replace hy := OwnI.keep hy hb); (try replace hs := OwnI.keep hs hb); (try replace hg := OwnI.keep hg hb); (try replace hd := OwnI.keep hd hb); replace hB := belowT hb hB; clear hb)
  clear ha
  (go_wp2_with fail; refine (toInt64S_any _ _ _ _ _ (Ints.keep h hB) hn).mono ?_; rintro e w' ⟨rfl, hx, hb⟩; have hl := OwnI.lt hx _ rfl; (have hz := hb.size; (try replace ha := OwnI.keep ha hb); (try replace hc := OwnI.keep hc hb); (try replace hx := OwnI.keep hx hb); (try replace hy := OwnI.keep hy hb); (try replace hs := OwnI.keep hs hb); (try replace hg := OwnI.keep hg hb); (try replace hd := OwnI.keep hd hb); replace hB := belowT hb hB; clear hb))
  go_wp2_with fail
  refine (implBreak_any _ _ _ _ _ _ _ (OwnI.ints hx) hn).mono ?_
  rintro e w' ⟨D, r, t, rfl, hg, hb⟩
  obtain rfl : r = q := (OwnI.len hg).symm.trans (OwnI.len hs)
  have g1 := fun g h => (OwnI.lt hg g h).1
  (have hz := hb.size; (try replace ha := OwnI.keep ha hb); (try replace hc := OwnI.keep hc hb); (try replace hx := OwnI.keep hx hb); (try replace hy := OwnI.keep hy hb); (try replace hs := OwnI.keep hs hb); (try replace hg := OwnI.keep hg hb); (try replace hd := OwnI.keep hd hb); replace hB := belowT hb hB; clear hb)
  (go_wp2_with fail; refine (eqI_same _ _ _ _ _ _ _ (OwnI.ints hg) (OwnI.ints hs) hq).mono ?_; rintro e w' ⟨rfl, hb⟩; (have hz := hb.size; (try replace ha := OwnI.keep ha hb); (try replace hc := OwnI.keep hc hb); (try replace hx := OwnI.keep hx hb); (try replace hy := OwnI.keep hy hb); (try replace hs := OwnI.keep hs hb); (try replace hg := OwnI.keep hg hb); (try replace hd := OwnI.keep hd hb); replace hB := belowT hb hB; clear hb))
  (go_wp2_with fail; refine (toInt64S_any _ _ _ _ _ (Ints.keep h hB) hn).mono ?_; rintro e w' ⟨rfl, hd, hb⟩; have hl := OwnI.lt hd _ rfl; (have hz := hb.size; (try replace ha := OwnI.keep ha hb); (try replace hc := OwnI.keep hc hb); (try replace hx := OwnI.keep hx hb); (try replace hy := OwnI.keep hy hb); (try replace hs := OwnI.keep hs hb); (try replace hg := OwnI.keep hg hb); (try replace hd := OwnI.keep hd hb); replace hB := belowT hb hB; clear hb))
  (go_wp2_with fail; refine (eqI_same _ _ _ _ _ _ _ (OwnI.ints hx) (OwnI.ints hd) hn).mono ?_; rintro e w' ⟨rfl, hb⟩; (have hz := hb.size; (try replace ha := OwnI.keep ha hb); (try replace hc := OwnI.keep hc hb); (try replace hx := OwnI.keep hx hb); (try replace hy := OwnI.keep hy hb); (try replace hs := OwnI.keep hs hb); (try replace hg := OwnI.keep hg hb); (try replace hd := OwnI.keep hd hb); replace hB := belowT hb hB; clear hb))
  clear hd
  (go_wp2_with fail; refine (markInt64S_any _ _ _ _ _ _ _ hx hn (by omega) (by omega)).mono ?_; rintro e w' ⟨rfl, hx, hgw⟩; (have hz := hgw.size; (try replace hs := OwnI.grown hs hgw (by (intro b e1 e2; rw [blk_own] at e1; (try (have := s1 b e2)); (try (have := s1 b e1)); (try (have := g1 b e1)); (try (have := g1 b e2)); (try simp only [blk, Option.map_some, Option.some.injEq] at e1); (try simp only [blk, Option.map_some, Option.some.injEq] at e2); omega))); (try replace hg := OwnI.grown hg hgw (by (intro b e1 e2; rw [blk_own] at e1; (try (have := s1 b e2)); (try (have := s1 b e1)); (try (have := g1 b e1)); (try (have := g1 b e2)); (try simp only [blk, Option.map_some, Option.some.injEq] at e1); (try simp only [blk, Option.map_some, Option.some.injEq] at e2); omega))); (try replace hx := OwnI.grown hx hgw (by (intro b e1 e2; rw [blk_own] at e1; (try (have := s1 b e2)); (try (have := s1 b e1)); (try (have := g1 b e1)); (try (have := g1 b e2)); (try simp only [blk, Option.map_some, Option.some.injEq] at e1); (try simp only [blk, Option.map_some, Option.some.injEq] at e2); omega))); (try replace hy := OwnI.grown hy hgw (by (intro b e1 e2; rw [blk_own] at e1; (try (have := s1 b e2)); (try (have := s1 b e1)); (try (have := g1 b e1)); (try (have := g1 b e2)); (try simp only [blk, Option.map_some, Option.some.injEq] at e1); (try simp only [blk, Option.map_some, Option.some.injEq] at e2); omega))); replace hB := Below.grown hB hgw hB.size (by (intro b e1; rw [blk_own] at e1; (try (have := g1 b e1)); (try simp only [blk, Option.map_some, Option.some.injEq] at e1); omega)); clear hgw))
  (go_wp2_with fail; refine (eqI_same _ _ _ _ _ _ _ (OwnI.ints hg) (OwnI.ints hs) hq).mono ?_; rintro e w' ⟨rfl, hb⟩; (have hz := hb.size; (try replace ha := OwnI.keep ha hb); (try replace hc := OwnI.keep hc hb); (try replace hx := OwnI.keep hx hb); (try replace hy := OwnI.keep hy hb); (try replace hs := OwnI.keep hs hb); (try replace hg := OwnI.keep hg hb); (try replace hd := OwnI.keep hd hb); replace hB := belowT hb hB; clear hb))
  clear hx
  (go_wp2_with fail; refine (markInt64S_any _ _ _ _ _ _ _ hg hq (by omega) (by omega)).mono ?_; rintro e w' ⟨rfl, hg, hgw⟩; (have hz := hgw.size; (try replace hs := OwnI.grown hs hgw (by (intro b e1 e2; rw [blk_own] at e1; (try (have := s1 b e2)); (try (have := s1 b e1)); (try (have := g1 b e1)); (try (have := g1 b e2)); (try simp only [blk, Option.map_some, Option.some.injEq] at e1); (try simp only [blk, Option.map_some, Option.some.injEq] at e2); omega))); (try replace hg := OwnI.grown hg hgw (by (intro b e1 e2; rw [blk_own] at e1; (try (have := s1 b e2)); (try (have := s1 b e1)); (try (have := g1 b e1)); (try (have := g1 b e2)); (try simp only [blk, Option.map_some, Option.some.injEq] at e1); (try simp only [blk, Option.map_some, Option.some.injEq] at e2); omega))); (try replace hx := OwnI.grown hx hgw (by (intro b e1 e2; rw [blk_own] at e1; (try (have := s1 b e2)); (try (have := s1 b e1)); (try (have := g1 b e1)); (try (have := g1 b e2)); (try simp only [blk, Option.map_some, Option.some.injEq] at e1); (try simp only [blk, Option.map_some, Option.some.injEq] at e2); omega))); (try replace hy := OwnI.grown hy hgw (by (intro b e1 e2; rw [blk_own] at e1; (try (have := s1 b e2)); (try (have := s1 b e1)); (try (have := g1 b e1)); (try (have := g1 b e2)); (try simp only [blk, Option.map_some, Option.some.injEq] at e1); (try simp only [blk, Option.map_some, Option.some.injEq] at e2); omega))); replace hB := Below.grown hB hgw hB.size (by (intro b e1; rw [blk_own] at e1; (try (have := g1 b e1)); (try simp only [blk, Option.map_some, Option.some.injEq] at e1); omega)); clear hgw))
  (go_wp2_with fail; refine (heldInt64S_ramp _ _ _ _ _ (OwnI.ints hg) hq (by omega) (by omega)).mono ?_; rintro e w' ⟨rfl, rfl⟩)
  (go_wp2_with fail; refine (toInt64S_any _ _ _ _ _ (Ints.keep h hB) hn).mono ?_; rintro e w' ⟨rfl, hx, hb⟩; have hl := OwnI.lt hx _ rfl; (have hz := hb.size; (try replace ha := OwnI.keep ha hb); (try replace hc := OwnI.keep hc hb); (try replace hx := OwnI.keep hx hb); (try replace hy := OwnI.keep hy hb); (try replace hs := OwnI.keep hs hb); (try replace hg := OwnI.keep hg hb); (try replace hd := OwnI.keep hd hb); replace hB := belowT hb hB; clear hb))
  go_wp2_with fail
  refine (implBreak_any _ _ _ _ _ _ _ (OwnI.ints hx) hn).mono ?_
  rintro e w' ⟨D2, r2, t2, rfl, hd, hb⟩
  obtain rfl : r2 = r := (OwnI.len hd).symm.trans (OwnI.len hs)
  (have hz := hb.size; (try replace ha := OwnI.keep ha hb); (try replace hc := OwnI.keep hc hb); (try replace hx := OwnI.keep hx hb); (try replace hy := OwnI.keep hy hb); (try replace hs := OwnI.keep hs hb); (try replace hg := OwnI.keep hg hb); (try replace hd := OwnI.keep hd hb); replace hB := belowT hb hB; clear hb)
  (go_wp2_with fail; refine (eqI_same _ _ _ _ _ _ _ (OwnI.ints hd) (OwnI.ints hs) hq).mono ?_; rintro e w' ⟨rfl, hb⟩; (have hz := hb.size; (try replace ha := OwnI.keep ha hb); (try replace hc := OwnI.keep hc hb); (try replace hx := OwnI.keep hx hb); (try replace hy := OwnI.keep hy hb); (try replace hs := OwnI.keep hs hb); (try replace hg := OwnI.keep hg hb); (try replace hd := OwnI.keep hd hb); replace hB := belowT hb hB; clear hb))
  (go_wp2_with fail; refine (heldInt64S_ramp _ _ _ _ _ (OwnI.ints hg) hq (by omega) (by omega)).mono ?_; rintro e w' ⟨rfl, rfl⟩)
  go_wp2
  go_ret
  exact ⟨rfl, hB⟩
end Go.Proofs.Ytniifpfhfpcmcaa
