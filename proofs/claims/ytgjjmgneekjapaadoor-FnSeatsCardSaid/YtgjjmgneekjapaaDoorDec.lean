/- Numbers in decimal: l01Dec. -/
import Derived.Test.YtgjjmgneekjapaaDoorBase
import Derived.Laws.BytesArg
import Derived.Handy
import Derived.Laws.OwnMore
import Derived.Lib.ItoaMem
namespace Go.Proofs.YtgjjmgneekjapaaDoor
open Go.RowKit
set_option linter.unusedVariables false
set_option linter.unusedSimpArgs false

theorem dinfo_u8 : (Tryd.prog.info? 5).map (fun i => (i.zero, i.size, i.bytes)) = some (some (.int .u8 0), 1, 1) := by kernel_rfl
theorem dec_conv {w : World} {base n : Nat} {v : Value} {xs : List Int} (h : w.ownsRow base 5 1 v n (xs.map (Value.int .u8))) : (convert 28 9 v).run Tryd.prog w = .ok (.string (strOfNums xs)) w := by
  rcases h.2 with ⟨h1, h2⟩ | ⟨g, cap, cur, hv, hg, hh, hc, hm, hs, ht⟩
  · subst h2
    have hx : xs = [] := by have := h.1; simpa using this
    subst hx
    subst h1
    exact run_convert_bytes_nil (P := Tryd.prog) w 28 5 Tryd.underlying28 Tryd.underlying5 _ _ 9 Tryd.underlying9
  · subst hv
    have hl : xs.length = n := by have := h.1; simpa using this
    refine run_convert_bytes_arg (P := Tryd.prog) w 28 5 Tryd.underlying28 Tryd.underlying5 g 0 n cap xs hl (fun i hi => ?_) 9 Tryd.underlying9
    rw [Nat.zero_add, World.ownsRow.cellAt h i (by omega), List.getElem?_map, List.getD_eq_getElem?_getD, List.getElem?_eq_getElem (by omega)]
    rfl
/-- The decimal digits of n; none of 0. -/
def dg : Nat → List Int
  | 0 => []
  | n + 1 => dg ((n + 1) / 10) ++ [((48 + (n + 1) % 10 : Nat) : Int)]
decreasing_by omega
theorem dg_pos {n : Nat} (h : 0 < n) : dg n = dg (n / 10) ++ [((48 + n % 10 : Nat) : Int)] := by
  obtain ⟨m, rfl⟩ : ∃ m, n = m + 1 := ⟨n - 1, by omega⟩
  rw [dg]
theorem dg_dec : ∀ n : Nat, 0 < n → (strOfNums (dg n)) = ⟨(Lib.decDigits n).toArray⟩ := by
  intro n
  induction n using Nat.strongRecOn with
  | ind n ih =>
    intro hn
    have key : ∀ n : Nat, 0 < n → (dg n).map (fun z => UInt8.ofNat z.toNat) = Lib.decDigits n := by
      intro n
      induction n using Nat.strongRecOn with
      | ind n ih2 =>
        intro hn
        rw [dg_pos hn, List.map_append, Lib.decDigits]
        by_cases h10 : n < 10
        · rw [dif_pos h10, show n / 10 = 0 by omega, dg, show n % 10 = n by omega]; rfl
        · rw [dif_neg h10, ih2 (n / 10) (by omega) (by omega)]; rfl
    unfold strOfNums
    rw [← key n hn]
theorem dg_len : ∀ k n : Nat, n < 10 ^ k → (dg n).length ≤ k := by
  intro k
  induction k with
  | zero => intro n h; have : n = 0 := by simpa using h
            subst this; simp [dg]
  | succ k ih =>
    intro n h
    rcases Nat.eq_zero_or_pos n with h0 | h0
    · subst h0; simp [dg]
    · rw [dg_pos h0, List.length_append]
      have := ih (n / 10) (by rw [Nat.div_lt_iff_lt_mul (by omega)]; rw [Nat.pow_succ] at h; exact h)
      simp; omega
abbrev OwnD (w : World) (base : Nat) (v : Value) (n : Nat) (xs : List Int) : Prop := w.ownsRow base 5 1 v n (xs.map (Value.int .u8))
structure BoxD (p : Prop) : Prop where
  out : p
theorem dec_app {w1 : World} {base q : Nat} {v1 : Value} {z : Int} {L : List Int} (h : w1.ownsRow base 5 1 v1 (1 + q) ([Value.int .u8 z] ++ L.map (Value.int .u8))) : ∃ g p, v1 = .slice (some ⟨g, 0, none⟩) (1 + q) p ∧ OwnD w1 base (.slice (some ⟨g, 0, none⟩) (1 + q) p) (1 + q) (z :: L) := by
  have e : [Value.int .u8 z] ++ L.map (Value.int .u8) = (z :: L).map (Value.int .u8) := by simp
  rw [e] at h
  rcases h.2 with ⟨_, h0⟩ | ⟨g, cap, cur, hv, _⟩
  · omega
  · subst hv; exact ⟨_, _, rfl, h⟩
theorem dec_news {w : World} {base g q c : Nat} {xs : List Int} (o : Obj) (h : OwnD w base (.slice (some ⟨g, 0, none⟩) q c) q xs) : ∀ j u, (xs.map (Value.int .u8))[j]? = some u → (w.alloc o).cell? ((⟨g, 0, none⟩ : Addr).add j) = some u := fun j u hu => by
  have hj : j < (xs.map (Value.int .u8)).length := (List.getElem?_eq_some_iff.1 hu).1
  have hl := h.1
  have e : (⟨g, 0, none⟩ : Addr).add j = ⟨g, j, none⟩ := by unfold Addr.add; split <;> simp_all
  have hc : w.cell? ⟨g, j, none⟩ = some u := by rw [World.ownsRow.cellAt h j (by omega)]; exact hu
  rw [e]
  exact keepc ((Below.refl _ _).alloc (Nat.le_refl _) o) hc
set_option maxRecDepth 100000 in
theorem l01Dec_any (n : Nat) (w : World) (n0 : 0 < n) (n1 : n ≤ 100000) : Calls Tryd.prog 28 #[.int .i64 n] w fun e w' => e = .returned (.string ⟨(Lib.decDigits n).toArray⟩) ∧ Below w.heap.size w w' := by
  obtain ⟨i0, hi0, hz0, hz1, hz2⟩ := info_parts dinfo_u8
  rw [← dg_dec n n0]
  have hlen := dg_len 6 n (by omega)
  have HL := Lib.hid hlen
  clear hlen
  go_enter Tryd.func28, Tryd.ntmps28
  go_wp2_with fail
  go_loopw [3, 4] (fun v i wr => ∃ k : Nat, k ≤ 100000 ∧ i = .int .i64 k ∧ (∃ g c q xs, v = .slice (some ⟨g, 0, none⟩) q c ∧ OwnD wr w.heap.size (.slice (some ⟨g, 0, none⟩) q c) q xs ∧ BoxD (dg n = dg k ++ xs)) ∧ Below w.heap.size w wr) (fun _ i _ => (intOf i).toNat)
  case atStart => exact ⟨n, n1, rfl, ⟨_, _, 0, [], rfl, World.ownsRow_made _ _ _ (Nat.le_refl _) (by unfold maxLen; omega) (by simp), ⟨by simp⟩⟩, by go_grown⟩
  case round =>
  obtain ⟨k, hk, rfl, ⟨g, c, q, xs, rfl, hown, hE⟩, hB⟩ := hrel
  have hxl : xs.length = q := by simpa using hown.1
  have hq : q ≤ 6 := by
    have h1 := HL.out
    rw [hE.out, List.length_append, hxl] at h1
    omega
  have hsz := hB.size
  by_cases hk0 : 0 < k
  · have t0 : ((k : Int) != 0) = true := by rw [bne_iff_ne]; omega
    have d0 : 0 ≤ (k : Int) % 10 ∧ (k : Int) % 10 ≤ 9 := by omega
    have d1 : ¬ (k : Int) % 10 < 0 := by omega
    have d2 : IntKind.u8.wrap (48 + (k : Int) % 10) = 48 + (k : Int) % 10 := by rw [IntKind.wrap_u8]; omega
    have HE := BoxD.mk (show dg n = dg (k / 10) ++ ((48 + (k : Int) % 10) :: xs) by rw [hE.out, dg_pos hk0]; simp)
    have hl2 : (xs.map (Value.int .u8)).length = q * 1 := by simp [hxl]
    have HL2 := Lib.hid hl2
    have HN := BoxD.mk (dec_news (.cells #[.int .u8 (48 + (k : Int) % 10)] 5) hown)
    clear hl2 hxl
    go_wp2_with (at_builtin; refine wpList_append_own _ rfl _ _ 28 rfl w.heap.size 5 i0 (.int .u8 0) 1 1 Tryd.underlying28 hi0 hz0 hz1 hz2 rfl (by decide) _ _ _ rfl (World.ownsRow_lit wr #[.int .u8 (48 + (k : Int) % 10)] 1 hsz (by unfold maxLen; omega) (by simp)) ⟨g, 0, none⟩ q c (xs.map (Value.int .u8)) rfl HL2.out HN.out (ints_oneCell .u8 xs) (by unfold maxLen; omega) (by omega) (by simp; omega) ?_; intro v1 w1 hown1 hgrow1 _)
    go_roundw
    case rel =>
      obtain ⟨g', c', rfl, ho⟩ := dec_app hown1
      replace hgrow1 : (wr.alloc _).grownBy w1 (some wr.heap.size) := hgrow1
      exact ⟨k / 10, by omega, by simp, ⟨_, _, _, _, rfl, ho, HE⟩, (hB.alloc hsz _).grown hgrow1 (by simp; omega) (fun g e => by injection e with e; omega)⟩
    case measure => simp [intOf]; omega
  · obtain rfl : k = 0 := by omega
    have hx : dg n = xs := by rw [hE.out]; simp [dg]
    have hq0 : 0 < q := by
      have h1 := dg_pos n0
      rw [hx] at h1
      rw [← hxl, h1]; simp
    have tq : ((q : Int) == 0) = false := by rw [beq_eq_false_iff_ne]; omega
    have HX := Lib.hid hx
    have kc := dec_conv hown
    clear hxl hx
    go_wp2
    go_ret
    exact ⟨by rw [HX.out]; rfl, hB⟩
end Go.Proofs.YtgjjmgneekjapaaDoor
