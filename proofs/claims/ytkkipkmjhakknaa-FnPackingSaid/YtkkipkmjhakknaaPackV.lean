/- PackLevel of the reference: what it tells. -/
import Derived.Test.YtkkipkmjhakknaaPackW
namespace Go.Proofs.Ytkkipkmjhakknaa
open Go.RowKit
set_option linter.unusedVariables false
set_option linter.unusedSimpArgs false

def PackPost (ws ps : List Int) (h : Int) (w : World) (e : Ending) (w' : World) : Prop :=
  ∃ C q p, e = .returned (.tuple #[.slice C q p, .int .i64 (packV ws ps h).2.1, .int .i64 (packV ws ps h).2.2]) ∧ OwnI w' w.heap.size (.slice C q p) q (packV ws ps h).1 ∧ Below w.heap.size w w'
theorem packV_range {ws ps : List Int} {h : Int} (e : packOk ws ps h = false) : packV ws ps h = ([], 0, 2) := by simp [packV, e]
theorem packOk_parts {ws ps : List Int} {h : Int} (a : ws.length ≤ 6) (b : ps.length ≤ 6) (c : allIn ws 1 10000 = true) (d : allIn ps 0 1000 = true) (e : inB h 0 1000 = true) : packOk ws ps h = true := by
  unfold packOk; simp [a, b, c, d, e]
theorem packV_full {ws ps : List Int} {h : Int} (e : packOk ws ps h = true) (hf : ps.length < ws.length) : packV ws ps h = ([], 0, 5) := by simp [packV, e, hf]
theorem packV_all {ws ps : List Int} {h : Int} (e : packOk ws ps h = true) (hf : ¬ ps.length < ws.length) : packV ws ps h = ((packF ws ps h ws.length [] 0 ([], -1)).1, (packF ws ps h ws.length [] 0 ([], -1)).2, 0) := by simp [packV, e, hf]
theorem packOk_w {ws ps : List Int} {h : Int} (e : allIn ws 1 10000 = false) : packOk ws ps h = false := by simp [packOk, e]
theorem packOk_n {ws ps : List Int} {h : Int} (e : 6 < ws.length) : packOk ws ps h = false := by simp [packOk]; intro; omega
theorem packOk_p {ws ps : List Int} {h : Int} (e : placesB ps 6 = false) : packOk ws ps h = false := by
  unfold placesB at e
  rw [Bool.and_eq_false_iff] at e
  unfold packOk
  rcases e with e | e
  · simp [e]
  · have : ¬ ps.length ≤ 6 := by have := of_decide_eq_false e; omega
    simp [this]
theorem packOk_h {ws ps : List Int} {h : Int} (e : inB h 0 1000 = false) : packOk ws ps h = false := by simp [packOk, e]
theorem OwnI.low {w : World} {base base' : Nat} {v : Value} {n : Nat} {zs : List Int} (h : OwnI w base v n zs) (hb : base' ≤ base) : OwnI w base' v n zs := by
  refine ⟨h.1, ?_⟩
  rcases h.2 with h2 | ⟨g, cap, cur, hv, hg, h3⟩
  · exact .inl h2
  · exact .inr ⟨g, cap, cur, hv, Nat.le_trans hb hg, h3⟩
theorem wkB_new (w : World) (W P : Value) (h : Int) (t : TypeId) : WkB (w.alloc (.cells #[W, P, .int .i64 h, .slice none 0 0, .int .i64 (-1)] t)) w.heap.size W P h (.slice none 0 0) (-1) := by
  have hc : ∀ j : Nat, (w.alloc (.cells #[W, P, .int .i64 h, .slice none 0 0, .int .i64 (-1)] t)).cell? ⟨w.heap.size, j, none⟩ = #[W, P, Value.int .i64 h, .slice none 0 0, .int .i64 (-1)][j]? := fun j => cell_of_row _ _ _ _ t (0, 0) (by exact Array.getElem?_push_size)
  exact ⟨hc 0, hc 1, hc 2, hc 3, hc 4, World.frozen?_alloc_at _ _ _ _ rfl, World.frozen?_alloc_at _ _ _ _ rfl⟩
set_option maxRecDepth 100000 in
set_option maxHeartbeats 4000000 in
theorem specPack_any (A B : Option Addr) (n c m d : Nat) (ws ps : List Int) (z : Int) (w : World) (h : Ints w A n ws) (g : Ints w B m ps) (hn : n ≤ 1048576) (hm : m ≤ 1048576) : Calls Try.prog 41 #[.slice A n c, .slice B m d, .int .i64 z] w (PackPost ws ps z w) := by
  have HL := Lib.hid h.1
  have GL := Lib.hid g.1
  unfold PackPost
  go_enter Try.func41, Try.ntmps41
  go_wp2
  go_loop [9] (fun i => ∃ k : Nat, k ≤ n ∧ i = .int .i64 k ∧ AllTill ws 1 10000 k) (fun i => n - (intOf i).toNat)
  case atStart => exact ⟨0, Nat.zero_le _, rfl, fun _ _ h => absurd h (by omega)⟩
  case round =>
    obtain ⟨k, hk, rfl, he⟩ := hrel
    by_cases hlt : k < n
    · obtain ⟨b, off, y, rfl, hblt, hy, hcy⟩ := h.at_ hlt
      have Hy := Lib.hid hy
      clear hy
      cases gy : inB y 1 10000
      · go_wp2_with (go_at_call 69; refine (l00In_eq _ _ _ _ _ gy).mono ?_; rintro e w' ⟨rfl, rfl⟩)
        go_ret3
        have := packOk_w (ps := ps) (h := z) (allIn_no Hy.out gy)
        (rw [packV_range (by assumption)]; exact ⟨none, 0, 0, rfl, World.ownsRow_nil _ _ _ _, by (repeat' (first | (with_reducible exact Below.refl _ _) | (with_reducible assumption) | (with_reducible refine Below.drew ?_) | (with_reducible refine below_drewN ?_ _) | (with_reducible refine Below.setCell ?_ ?_ _) | (with_reducible refine Below.alloc ?_ ?_ _) | go_size))⟩)
      · go_wp2_with (go_at_call 69; refine (l00In_eq _ _ _ _ _ gy).mono ?_; rintro e w' ⟨rfl, rfl⟩)
        go_round
        case rel => exact ⟨k + 1, by omega, by go_num, allTill_succ he Hy.out gy⟩
        case measure => simp [intOf]; omega
    · obtain rfl : k = n := by omega
      have ha := allIn_yes HL.out he
      have HA := Lib.hid ha
      clear ha
      by_cases h6 : 6 < k
      · have h6' : (6 : Int) < (k : Int) := by omega
        go_wp2_with fail
        go_ret3
        have := packOk_n (ps := ps) (h := z) (show 6 < ws.length by rw [HL.out]; exact h6)
        (rw [packV_range (by assumption)]; exact ⟨none, 0, 0, rfl, World.ownsRow_nil _ _ _ _, by (repeat' (first | (with_reducible exact Below.refl _ _) | (with_reducible assumption) | (with_reducible refine Below.drew ?_) | (with_reducible refine below_drewN ?_ _) | (with_reducible refine Below.setCell ?_ ?_ _) | (with_reducible refine Below.alloc ?_ ?_ _) | go_size))⟩)
      have h6' : ¬ (6 : Int) < (k : Int) := by omega
      cases hp : placesB ps 6
      · go_wp2_with (go_at_call 76; refine (l14Places_eq _ _ _ _ _ _ _ g hm hp).mono ?_; rintro e w' ⟨rfl, hw'⟩; have hw2 := hw'.symm; clear hw'; subst hw2)
        go_ret3
        have := packOk_p (ws := ws) (h := z) hp
        (rw [packV_range (by assumption)]; exact ⟨none, 0, 0, rfl, World.ownsRow_nil _ _ _ _, by (repeat' (first | (with_reducible exact Below.refl _ _) | (with_reducible assumption) | (with_reducible refine Below.drew ?_) | (with_reducible refine below_drewN ?_ _) | (with_reducible refine Below.setCell ?_ ?_ _) | (with_reducible refine Below.alloc ?_ ?_ _) | go_size))⟩)
      cases hz : inB z 0 1000
      · go_wp2_with (first | (go_at_call 76; refine (l14Places_eq _ _ _ _ _ _ _ g hm hp).mono ?_; rintro e w' ⟨rfl, hw'⟩; have hw2 := hw'.symm; clear hw'; subst hw2) | (go_at_call 71; refine (l14Place_eq _ _ _ hz).mono ?_; rintro e w' ⟨rfl, rfl⟩))
        go_ret3
        have := packOk_h (ws := ws) (ps := ps) hz
        (rw [packV_range (by assumption)]; exact ⟨none, 0, 0, rfl, World.ownsRow_nil _ _ _ _, by (repeat' (first | (with_reducible exact Below.refl _ _) | (with_reducible assumption) | (with_reducible refine Below.drew ?_) | (with_reducible refine below_drewN ?_ _) | (with_reducible refine Below.setCell ?_ ?_ _) | (with_reducible refine Below.alloc ?_ ?_ _) | go_size))⟩)
      have hp6 := hp
      unfold placesB at hp6
      rw [Bool.and_eq_true, decide_eq_true_iff, GL.out] at hp6
      obtain ⟨hpa, hp6⟩ := hp6
      have m6 : m ≤ 6 := by omega
      obtain ⟨z0, z1⟩ := (inB_iff _ _ _).1 hz
      have hok := packOk_parts (by rw [HL.out]; omega) (by rw [GL.out]; omega) HA.out hpa hz
      by_cases hf : m < k
      · have hf' : (m : Int) < (k : Int) := by omega
        go_wp2_with (first | (go_at_call 76; refine (l14Places_eq _ _ _ _ _ _ _ g hm hp).mono ?_; rintro e w' ⟨rfl, hw'⟩; have hw2 := hw'.symm; clear hw'; subst hw2) | (go_at_call 71; refine (l14Place_eq _ _ _ hz).mono ?_; rintro e w' ⟨rfl, rfl⟩))
        go_ret3
        rw [packV_full hok (by rw [HL.out, GL.out]; exact hf)]
        exact ⟨none, 0, 0, rfl, World.ownsRow_nil _ _ _ _, by (repeat' (first | (with_reducible exact Below.refl _ _) | (with_reducible assumption) | (with_reducible refine Below.drew ?_) | (with_reducible refine below_drewN ?_ _) | (with_reducible refine Below.setCell ?_ ?_ _) | (with_reducible refine Below.alloc ?_ ?_ _) | go_size))⟩
      · have hf' : ¬ (m : Int) < (k : Int) := by omega
        have HV := Lib.hid (packV_all hok (by rw [HL.out, GL.out]; exact hf))
        clear hok
        go_wp2_with (first | (go_at_call 76; refine (l14Places_eq _ _ _ _ _ _ _ g hm hp).mono ?_; rintro e w' ⟨rfl, hw'⟩; have hw2 := hw'.symm; clear hw'; subst hw2) | (go_at_call 71; refine (l14Place_eq _ _ _ hz).mono ?_; rintro e w' ⟨rfl, rfl⟩))
        have hk := wkB_new w (.slice A k c) (.slice B m d) z 83
        generalize hw1 : w.alloc (.cells #[Value.slice A k c, Value.slice B m d, Value.int IntKind.i64 z, Value.slice none 0 0, Value.int IntKind.i64 (-1)] 83) = w1 at *
        have hs1 : w1.heap.size = w.heap.size + 1 := by rw [← hw1]; exact World.size_alloc _ _
        have hb1 : Below w.heap.size w w1 := by rw [← hw1]; exact (Below.refl _ _).alloc (Nat.le_refl _) _
        have hb2 : Below w.heap.size w (w1.alloc (.cells #[] 2)) := hb1.alloc (by omega) _
        have hs2 : (w1.alloc (.cells #[] 2)).heap.size = w.heap.size + 2 := by rw [World.size_alloc, hs1]
        have hk2 := hk.keep ((Below.refl _ _).alloc (Nat.le_refl _) (.cells #[] 2))
        have hU : OwnI (w1.alloc (.cells #[] 2)) w.heap.size (.slice (some ⟨w.heap.size + 1, 0, none⟩) 0 0) 0 [] := by
          rw [← hs1]
          exact OwnI.low (World.ownsRow_made w1 #[] 0 (Nat.le_refl _) (Nat.zero_le _) rfl) (by omega)
        clear hw1 hk hb1
        refine (walk_any ws ps z w.heap.size w.heap.size A B k c m d (fun x hx => ?_) (fun x hx => ?_) z0 z1 (by rw [HL.out]; omega) (by rw [GL.out]; omega) (Nat.le_refl _) (fun h0 g1 e1 => ?_) (fun h0 g1 e1 => ?_) ws.length [] 0 _ ([], -1) _ none 0 0 0 0 (by simp) (h.keep hb2) (g.keep hb2) hU ?_ (World.ownsRow_nil _ _ _ _) (by simp [blk]) hk2 (by simp) (by simp)).mono ?_
        · obtain ⟨j, hj, e⟩ := List.mem_iff_getElem.1 hx
          have := allIn_at HA.out (show ws[j]? = some x by rw [List.getElem?_eq_getElem hj, e])
          omega
        · obtain ⟨j, hj, e⟩ := List.mem_iff_getElem.1 hx
          exact allIn_at hpa (show ps[j]? = some x by rw [List.getElem?_eq_getElem hj, e])
        · obtain ⟨b, off, rfl, hlt, _⟩ := h.2 h0
          simp [blk] at e1; omega
        · obtain ⟨b, off, rfl, hlt, _⟩ := g.2 h0
          simp [blk] at e1; omega
        · simp [blk]
        rintro e w3 ⟨rfl, ⟨BA, bn, bc, hB, hBp, hk⟩, hg⟩
        have hB3 := hb2.grown hg (by rw [hs2]; omega) (fun j e => by injection e with e; omega)
        have e1 := hk.c3
        have e2 := hk.c4
        have hlt := hk.lt
        have hv := HV.out
        clear HV
        generalize packF ws ps z ws.length [] 0 ([], -1) = st at *
        go_wp2
        go_quiet (fail)
        go_wp2
        go_ret3
        rw [hv]
        exact ⟨_, _, _, rfl, OwnI.keep hB (by first | exact Below.refl _ _ | exact drew_below _ _ | exact drew_below1 _), by (repeat' (first | (with_reducible exact Below.refl _ _) | (with_reducible assumption) | (with_reducible refine Below.drew ?_) | (with_reducible refine below_drewN ?_ _) | (with_reducible refine Below.setCell ?_ ?_ _) | (with_reducible refine Below.alloc ?_ ?_ _) | go_size))⟩
end Go.Proofs.Ytkkipkmjhakknaa
