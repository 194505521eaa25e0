/- slices.Insert at int64, one number (after the kit's own walk of it at []int). -/
import Derived.Test.YtniifpfhfpcmcaaNewX
import Derived.Shelf.Spec.SlicesInsertGrow
import Derived.Deep.RegionLaw
namespace Go.Proofs.Ytniifpfhfpcmcaa
open Go.RowKit Go.Lib
set_option linter.unusedVariables false
set_option linter.unusedSimpArgs false

/-- Cells put over an own row. -/
theorem own_setCells {base g n c size : Nat} {e : TypeId} : ∀ (vs : List Value) (o : Nat) {w : World} {xs : List Value}, w.ownsRow base e size (.slice (some ⟨g, 0, none⟩) n c) n xs → o + vs.length ≤ xs.length → (w.setCells g o vs).ownsRow base e size (.slice (some ⟨g, 0, none⟩) n c) n (xs.take o ++ vs ++ xs.drop (o + vs.length)) ∧ w.grownBy (w.setCells g o vs) (some g)
  | [], o, w, xs, h, _ => by
    rw [World.setCells]
    exact ⟨by simpa using h, World.grownBy.refl _ _⟩
  | v :: vs, o, w, xs, h, hl => by
    simp only [List.length_cons] at hl
    rw [World.setCells]
    obtain ⟨h1, g1⟩ := World.ownsRow.stored h o v
    obtain ⟨h2, g2⟩ := own_setCells vs (o + 1) h1 (by simp; omega)
    refine ⟨?_, World.grownBy.trans' g1 g2⟩
    have e1 : (xs.set o v).take (o + 1) ++ vs ++ (xs.set o v).drop (o + 1 + vs.length) = xs.take o ++ v :: vs ++ xs.drop (o + (vs.length + 1)) := by
      have t1 : (xs.set o v).take (o + 1) = xs.take o ++ [v] := by
        rw [List.take_add_one, List.take_set, List.set_eq_of_length_le (by simp; omega), List.getElem?_set_self (by omega)]; rfl
      rw [t1, List.drop_set_of_lt (by omega), show o + 1 + vs.length = o + (vs.length + 1) by omega]
      simp
    rw [e1] at h2
    simpa using h2
theorem ownsRow_more {w : World} {base g n c : Nat} {e : TypeId} {xs : List Value} (h : w.ownsRow base e 1 (.slice (some ⟨g, 0, none⟩) n c) n xs) (hc : n + 1 ≤ c) : ∃ u, w.ownsRow base e 1 (.slice (some ⟨g, 0, none⟩) (n + 1) c) (n + 1) (xs ++ [u]) := by
  rcases h.2 with ⟨h1, _⟩ | ⟨g', cap, cur, hv, hb, hh, hnc, hcm, hcs, ht⟩
  · cases h1
  · have e1 : g = g' ∧ c = cap := by simpa using hv
    obtain ⟨rfl, rfl⟩ := e1
    have hl : n < cur.toList.length := by simp; omega
    refine ⟨cur.toList[n], ?_, .inr ⟨g, c, cur, rfl, hb, hh, hc, hcm, hcs, ?_⟩⟩
    · have := h.1
      simp at this ⊢
      omega
    · rw [Nat.mul_one] at ht ⊢
      rw [List.take_add_one, List.getElem?_eq_getElem hl, ht]; rfl
/-- A number is laid between. -/
theorem between {α : Type} {X cs : List α} {i : Nat} {v : α} (hX : X.length = cs.length + 1) (hi : i ≤ cs.length) (ht : X.take i = cs.take i) : ((X.take i ++ [v] ++ X.drop (i + 1)).take (i + 1) ++ cs.drop i ++ (X.take i ++ [v] ++ X.drop (i + 1)).drop (i + 1 + (cs.drop i).length)) = cs.take i ++ v :: cs.drop i := by
  have hl : (X.take i ++ [v]).length = i + 1 := by simp; omega
  have h1 : (X.take i ++ [v] ++ X.drop (i + 1)).take (i + 1) = X.take i ++ [v] := by
    rw [List.take_append_of_le_length (by omega), List.take_of_length_le (by omega)]
  have h2 : (X.take i ++ [v] ++ X.drop (i + 1)).drop (i + 1 + (cs.drop i).length) = [] := by
    apply List.drop_eq_nil_of_le
    simp
    omega
  rw [h1, h2, ht]
  simp
theorem between2 {α : Type} {X cs : List α} {i : Nat} {v : α} (hX : X.length = cs.length + 1) (hi : i ≤ cs.length) (ht : X.take i = cs.take i) : ((X.take (i + 1) ++ cs.drop i ++ X.drop (i + 1 + (cs.drop i).length)).take i ++ [v] ++ (X.take (i + 1) ++ cs.drop i ++ X.drop (i + 1 + (cs.drop i).length)).drop (i + [v].length)) = cs.take i ++ v :: cs.drop i := by
  have hl : (X.take (i + 1)).length = i + 1 := by simp; omega
  have h0 : X.drop (i + 1 + (cs.drop i).length) = [] := by
    apply List.drop_eq_nil_of_le
    simp
    omega
  rw [h0, List.append_nil]
  have h1 : (X.take (i + 1) ++ cs.drop i).take i = cs.take i := by
    rw [List.take_append_of_le_length (by omega), List.take_take, Nat.min_eq_left (by omega), ht]
  have h2 : (X.take (i + 1) ++ cs.drop i).drop (i + [v].length) = cs.drop i := by
    show (X.take (i + 1) ++ cs.drop i).drop (i + 1) = cs.drop i
    rw [List.drop_append_of_le_length (by omega), List.drop_eq_nil_of_le (by omega)]; rfl
  rw [h1, h2]
  simp
set_option maxHeartbeats 4000000 in
set_option maxRecDepth 100000 in
/-- There is room. -/
theorem insert_shift (b n c i vb : Nat) (cs : List Value) (v : Value) (w : World) (hi : i < n) (hroom : n + 1 ≤ c) (hc63 : c ≤ 9223372036854775807) (hvb : vb ≠ b)
    (hcl : cs.length = n) (hcs : ∀ j v, cs[j]? = some v → w.cell? ⟨b, j, none⟩ = some v) (hsp : ∀ j, j < n + 1 → (w.cell? ⟨b, j, none⟩).isSome = true) (hfz : ∀ j, j < n + 1 → w.frozen? ⟨b, j, none⟩ = false)
    (hvs : w.cell? ⟨vb, 0, none⟩ = some v) (h1c : ∀ v ∈ cs, v.oneCell' = true) (h1v : v.oneCell' = true)
    (tA tB : TypeId) (kA kB : Nat) (hsa : w.shape? vb = some (tA, kA)) (hsb : w.shape? b = some (tB, kB)) (hkB : kB ≠ 0) (hfa : w.frozen? ⟨vb, 0, none⟩ = false) (hfe : w.frozen? ⟨vb, kA, none⟩ = false) :
    Calls Try.prog 52 #[.slice (some ⟨b, 0, none⟩) n c, .int .i64 i, .slice (some ⟨vb, 0, none⟩) 1 1] w fun e w' =>
      e = .returned (.slice (some ⟨b, 0, none⟩) (n + 1) c) ∧ w' = (w.drew.setCells b (i + 1) (cs.drop i)).setCells b i [v] := by
  have hz2 : ¬ ((i : Int) = (n : Int)) := by omega
  have hsz : (Try.prog.info? 2).map (·.size) = some 1 := by
    obtain ⟨i0, hi0, h0, h1, h2⟩ := info_parts info_i64
    rw [hi0]; simp [h1]
  have hov : ∀ lb cb, (callFunc 68 #[.slice (some ⟨vb, 0, none⟩) 1 1, .slice (some ⟨b, i + 1, none⟩) lb cb]).run Try.prog w = .ok (.value (.bool false)) w := fun lb cb => by
    rw [run_callFunc_extern Try.func68 (by kernel_rfl) (by kernel_rfl) (by kernel_rfl) (e := Extern.SlicesOverlaps.overlaps #[22, 22] #[4]) (by kernel_rfl),
      Lib.run_overlaps_apart w 22 4 2 Try.underlying22 1 Try.sizeOf2 ⟨vb, 0, none⟩ ⟨b, i + 1, none⟩ 1 1 lb cb hvb tA tB kA kB hsa hsb hkB hfa hfe]
    rfl
  have hdl : (cs.drop i).length = n - i := by rw [List.length_drop, hcl]
  have hw1 : IntKind.i64.wrap ((i : Int) + 1) = (i : Int) + 1 := by rw [IntKind.wrap_i64]; omega
  have hb1 : (0 : Int) ≤ (i : Int) + 1 := by omega
  have hin : i ≤ n := by omega
  have htn : ((i : Int) + 1).toNat = i + 1 := by omega
  have hb2 : ¬ (c = i + 1) := by omega
  have hb3 : (i : Int) ≤ (n : Int) + 1 := by omega
  have hb4 : ¬ (c = i) := by omega
  have hcp1 : ∀ ty dc sc, (Builtin.copy_ #[22, 22] ty #[.slice (some ⟨b, i + 1, none⟩) (n - i) dc, .slice (some ⟨b, i, none⟩) (n + 1 - i) sc]).run Try.prog w.drew = .ok (goInt (cs.drop i).length) (w.drew.setCells b (i + 1) (cs.drop i)) := fun ty dc sc =>
    run_copy_cells w.drew _ _ ty 2 b (i + 1) (n - i) dc ⟨b, i, none⟩ (n + 1 - i) sc (cs.drop i) Try.underlying22 hsz (by rw [hdl]; simp only [Nat.min_def]; split <;> omega)
      (fun j v hj => by rw [Addr.add_lit]; exact hcs (i + j) v (by rwa [List.getElem?_drop] at hj))
      (fun j hj => by rw [hdl] at hj; exact hsp _ (by omega)) (fun j hj => by rw [hdl] at hj; exact hfz _ (by omega)) (fun v hv => h1c v (List.mem_of_mem_drop hv))
  obtain ⟨W1, hW1⟩ : ∃ W1, W1 = w.drew.setCells b (i + 1) (cs.drop i) := ⟨_, rfl⟩
  have hsp1 : ∀ k, k < n + 1 → (W1.cell? ⟨b, k, none⟩).isSome = true := fun k hk => by
    rw [hW1]
    exact isSome_setCells b _ _ _ (fun j hj => by rw [hdl] at hj; exact hsp _ (by omega)) _ (hsp k hk)
  have hcp2 : ∀ (W : World), (∀ x, W.cell? x = W1.cell? x) → (∀ x, W.frozen? x = W1.frozen? x) → ∀ ty dc, (Builtin.copy_ #[22, 22] ty #[.slice (some ⟨b, i, none⟩) (n + 1 - i) dc, .slice (some ⟨vb, 0, none⟩) 1 1]).run Try.prog W = .ok (goInt [v].length) (W.setCells b i [v]) := fun W hWc hWf ty dc =>
    run_copy_cells W _ _ ty 2 b i (n + 1 - i) dc ⟨vb, 0, none⟩ 1 1 [v] Try.underlying22 hsz (by simp only [Nat.min_def, List.length_singleton]; split <;> omega)
      (fun j u hj => by
        have hj0 : j = 0 := by have := (List.getElem?_eq_some_iff.1 hj).1; simp at this; omega
        subst hj0
        simp at hj
        subst hj
        rw [Addr.add_lit, hWc, hW1, World.cell?_setCells_out b _ _ _ _ (fun h _ => absurd h hvb)]
        exact hvs)
      (fun j hj => by simp at hj; subst hj; rw [hWc]; exact hsp1 _ (by omega)) (fun j hj => by simp at hj; subst hj; rw [hWf, hW1, World.frozen?_setCells]; exact hfz _ (by omega)) (by intro u hu; simp at hu; subst hu; exact h1v)
  rw [← hW1] at hcp1
  go_enter Try.func52, Try.ntmps52
  go_wp2_with (simp only [hov])
  go_region_law (refine step_copy_runI rfl _ _ 22 22 rfl _ _ (by simp [Act.eval, Act.put]) (by simp [Act.eval, Act.put]) (hcp1 _ _ _) ?_)
  go_wp2_with (at_builtin; refine wpList_copy_runI _ rfl _ _ 22 22 rfl _ _ rfl rfl (hcp2 _ (fun _ => rfl) (fun _ => rfl) _ _) ?_)
  go_ret
  first | exact ⟨rfl, rfl⟩ | exact ⟨rfl, by rw [hW1]⟩
set_option maxHeartbeats 4000000 in
set_option maxRecDepth 100000 in
/-- There is no room. -/
theorem insert_grow (b n c i vb : Nat) (cs : List Value) (v : Value) (w : World) (hi : i < n) (hnc : n ≤ c) (hroom : c < n + 1) (hbig : (n + 1) * 8 ≤ 140737488355328)
    (hcl : cs.length = n) (hcs : ∀ j v, cs[j]? = some v → w.cell? ⟨b, j, none⟩ = some v) (hvs : w.cell? ⟨vb, 0, none⟩ = some v) (h1c : ∀ v ∈ cs, v.oneCell' = true) (h1v : v.oneCell' = true) :
    Calls Try.prog 52 #[.slice (some ⟨b, 0, none⟩) n c, .int .i64 i, .slice (some ⟨vb, 0, none⟩) 1 1] w fun e w' =>
      ∃ G, n + 1 ≤ G ∧ G ≤ maxLen ∧ e = .returned (.slice (some ⟨w.heap.size, 0, none⟩) (n + 1) G) ∧
      w' = (((w.alloc (.cells ((cs.take i).toArray ++ Builtin.zeroCells (Value.int .i64 0).cells (n + 1 - i) ++ Builtin.zeroCells (Value.int .i64 0).cells (G - (n + 1))) 2)).drew.setCells w.heap.size i [v]).drew).setCells w.heap.size (i + 1) (cs.drop i) := by
  obtain ⟨i0, hi0, hz0, hzs, hzb⟩ := info_parts info_i64
  have hz2 : ¬ ((i : Int) = (n : Int)) := by omega
  have hz3 : (c : Int) < (n : Int) + 1 := by omega
  have hsz : (Try.prog.info? 2).map (·.size) = some 1 := by rw [hi0]; simp [hzs]
  have hbw : b < w.heap.size := block_lt_of_cell (hcs 0 _ (List.getElem?_eq_getElem (by omega)))
  have hvw : vb < w.heap.size := block_lt_of_cell hvs
  have hkk : (n : Int) + 1 - (i : Int) = ((n + 1 - i : Nat) : Int) := by omega
  have hik : i + (n + 1 - i) = n + 1 := by omega
  have hold : (Builtin.firstCells i0.size i (.slice (some ⟨b, 0, none⟩) i c)).run Try.prog w.drew = .ok (cs.take i).toArray w.drew := by
    rw [hzs]
    exact run_firstCells_some w.drew 1 i ⟨b, 0, none⟩ i c (cs.take i) (by rw [List.length_take]; omega) (fun j v hj => by
      rw [Addr.add_lit, Nat.zero_add]
      rw [List.getElem?_take] at hj
      split at hj
      · exact hcs j v hj
      · cases hj)
  have hrz : ∀ ty, (Builtin.append_ #[22, 3] ty #[.slice (some ⟨b, 0, none⟩) i c, .int .i64 ((n : Int) + 1 - (i : Int))]).run Try.prog w =
      .ok (.slice (some ⟨w.heap.size, 0, none⟩) (n + 1) (grownCap w (n + 1) c 2)) (w.drew.alloc (.cells ((cs.take i).toArray ++ Builtin.zeroCells (Value.int .i64 0).cells (n + 1 - i) ++ Builtin.zeroCells (Value.int .i64 0).cells (grownCap w (n + 1) c 2 - (n + 1))) 2)) := fun ty => by
    have h := Lib.run_append_grow_zeros w 22 3 ty 2 i0 _ .i64 .i64 Try.underlying22 Try.underlying3 hi0 hz0 (some ⟨b, 0, none⟩) i c (cs.take i) hold (n + 1 - i) (by omega) (by omega) (by omega) (by omega) (by rw [hzb]; omega) (by rw [hzb, hik]; exact growslice_fits hroom hbig)
    rw [hik] at h
    rw [hkk]
    exact h
  obtain ⟨G, hG⟩ : ∃ G, G = grownCap w (n + 1) c 2 := ⟨_, rfl⟩
  obtain ⟨ROW, hROW⟩ : ∃ ROW : Array Value, ROW = (cs.take i).toArray ++ Builtin.zeroCells (Value.int .i64 0).cells (n + 1 - i) ++ Builtin.zeroCells (Value.int .i64 0).cells (G - (n + 1)) := ⟨_, rfl⟩
  rw [← hG] at hrz
  rw [← hROW] at hrz
  have hRl : n + 1 ≤ ROW.size := by
    rw [hROW]
    simp [Builtin.zeroCells, Value.cells]
    omega
  obtain ⟨W1, hW1⟩ : ∃ W1, W1 = w.drew.alloc (.cells ROW 2) := ⟨_, rfl⟩
  rw [← hW1] at hrz
  have hN : ∀ j, j < n + 1 → (W1.cell? ⟨w.heap.size, j, none⟩).isSome = true := fun j hj => by
    rw [hW1, World.cell?_alloc_at (w := w.drew) ROW _ w.heap.size j rfl, Array.getElem?_eq_getElem (by omega)]; rfl
  have hNf : ∀ j, W1.frozen? ⟨w.heap.size, j, none⟩ = false := fun j => by rw [hW1]; exact World.frozen?_alloc_at (w := w.drew) ROW _ w.heap.size j rfl
  have hOb : ∀ j v, w.cell? ⟨b, j, none⟩ = some v → W1.cell? ⟨b, j, none⟩ = some v := fun j v h => by rw [hW1, World.cell?_alloc_past (w := w.drew) _ b j hbw]; exact h
  have hOv : ∀ j v, w.cell? ⟨vb, j, none⟩ = some v → W1.cell? ⟨vb, j, none⟩ = some v := fun j v h => by rw [hW1, World.cell?_alloc_past (w := w.drew) _ vb j hvw]; exact h
  have hcpA : ∀ (W : World), (∀ x, W.cell? x = W1.cell? x) → (∀ x, W.frozen? x = W1.frozen? x) → ∀ ty dc, (Builtin.copy_ #[22, 22] ty #[.slice (some ⟨w.heap.size, i, none⟩) (n + 1 - i) dc, .slice (some ⟨vb, 0, none⟩) 1 1]).run Try.prog W = .ok (goInt [v].length) (W.setCells w.heap.size i [v]) := fun W hWc hWf ty dc =>
    run_copy_cells W _ _ ty 2 w.heap.size i (n + 1 - i) dc ⟨vb, 0, none⟩ 1 1 [v] Try.underlying22 hsz (by simp only [Nat.min_def, List.length_singleton]; split <;> omega)
      (fun j u hj => by
        have hj0 : j = 0 := by have := (List.getElem?_eq_some_iff.1 hj).1; simp at this; omega
        subst hj0
        simp at hj
        subst hj
        rw [Addr.add_lit, hWc]; exact hOv _ _ hvs)
      (fun j hj => by simp at hj; subst hj; rw [hWc]; exact hN _ (by omega)) (fun j hj => by rw [hWf]; exact hNf _) (by intro u hu; simp at hu; subst hu; exact h1v)
  have hGn : n + 1 ≤ G := by rw [hG]; exact grownCap_ge w _ _ _
  have hGm : G ≤ maxLen := by rw [hG]; exact grownCap_le_maxLen w (n + 1) c 2 (by unfold maxLen; omega)
  have hG63 : G ≤ 9223372036854775807 := by unfold maxLen at hGm; omega
  have hGi : ¬ (G = i) := by omega
  have hGim : ¬ (G = i + 1) := by omega
  have hci : ¬ (c = i) := by omega
  have hbN : b ≠ w.heap.size := by omega
  have hdl : (cs.drop i).length = n - i := by rw [List.length_drop, hcl]
  have hcpB : ∀ (W : World), (∀ x, W.cell? x = (W1.setCells w.heap.size i [v]).cell? x) → (∀ x, W.frozen? x = (W1.setCells w.heap.size i [v]).frozen? x) → ∀ ty dc sc, (Builtin.copy_ #[22, 22] ty #[.slice (some ⟨w.heap.size, i + 1, none⟩) (n - i) dc, .slice (some ⟨b, i, none⟩) (n - i) sc]).run Try.prog W = .ok (goInt (cs.drop i).length) (W.setCells w.heap.size (i + 1) (cs.drop i)) := fun W hWc hWf ty dc sc =>
    run_copy_cells W _ _ ty 2 w.heap.size (i + 1) (n - i) dc ⟨b, i, none⟩ (n - i) sc (cs.drop i) Try.underlying22 hsz (by rw [hdl]; simp only [Nat.min_def]; split <;> omega)
      (fun j u hj => by
        rw [Addr.add_lit, hWc, World.cell?_setCells_out _ _ _ _ _ (fun h _ => absurd h hbN)]
        exact hOb _ u (hcs (i + j) u (by rwa [List.getElem?_drop] at hj)))
      (fun j hj => by rw [hdl] at hj; rw [hWc]; exact isSome_setCells _ _ _ _ (fun t ht => by simp at ht; subst ht; exact hN _ (by omega)) _ (hN _ (by omega)))
      (fun j hj => by rw [hWf, World.frozen?_setCells]; exact hNf _) (fun v hv => h1c v (List.mem_of_mem_drop hv))
  subst hW1
  have hE1 : ∀ x, ((w.alloc (.cells ROW 2)).drew).cell? x = (w.drew.alloc (.cells ROW 2)).cell? x := fun x => rfl
  have hE2 : ∀ x, ((w.alloc (.cells ROW 2)).drew).frozen? x = (w.drew.alloc (.cells ROW 2)).frozen? x := fun x => rfl
  have hF1 : ∀ x, (((w.alloc (.cells ROW 2)).drew.setCells w.heap.size i [v]).drew).cell? x = ((w.drew.alloc (.cells ROW 2)).setCells w.heap.size i [v]).cell? x := fun x => rfl
  have hF2 : ∀ x, (((w.alloc (.cells ROW 2)).drew.setCells w.heap.size i [v]).drew).frozen? x = ((w.drew.alloc (.cells ROW 2)).setCells w.heap.size i [v]).frozen? x := fun x => rfl
  have hw1 : IntKind.i64.wrap ((i : Int) + 1) = (i : Int) + 1 := by rw [IntKind.wrap_i64]; omega
  have hb1 : (0 : Int) ≤ (i : Int) + 1 := by omega
  have hin : i ≤ n := by omega
  have htn : ((i : Int) + 1).toNat = i + 1 := by omega
  have hb3 : (i : Int) ≤ (n : Int) := by omega
  have HR := Lib.hid hROW
  clear hkk hik hold hROW hG hRl
  go_enter Try.func52, Try.ntmps52
  go_wp2_with (first
    | (at_builtin; refine Lib.wpList_append_run _ rfl _ _ _ _ rfl _ _ rfl rfl _ _ (hrz _) ?_)
    | (at_builtin; refine wpList_copy_runI _ rfl _ _ 22 22 rfl _ _ rfl rfl (hcpA _ hE1 hE2 _ _) ?_)
    | (at_builtin; refine wpList_copy_runI _ rfl _ _ 22 22 rfl _ _ rfl rfl (hcpB _ (fun _ => rfl) (fun _ => rfl) _ _ _) ?_))
  go_region_law (refine step_copy_runI rfl _ _ 22 22 rfl (.slice (some ⟨w.heap.size, i + 1, none⟩) (n - i) (G - (i + 1))) (.slice (some ⟨b, i, none⟩) (n - i) (c - i)) (by simp [Act.eval, Act.put]) (by simp [Act.eval, Act.put]) (hcpB _ hF1 hF2 2 (G - (i + 1)) (c - i)) ?_)
  go_wp2
  go_ret
  exact ⟨G, hGn, hGm, rfl, by rw [← HR.out]⟩
theorem shape_own {w : World} {base g n c : Nat} {e : TypeId} {xs : List Value} (h : w.ownsRow base e 1 (.slice (some ⟨g, 0, none⟩) n c) n xs) : w.shape? g = some (e, c) := by
  rcases h.2 with ⟨h1, _⟩ | ⟨g', cap, cur, hv, hb, hh, hnc, hcm, hcs, ht⟩
  · cases h1
  · have e1 : g = g' ∧ c = cap := by simpa using hv
    obtain ⟨rfl, rfl⟩ := e1
    simp [World.shape?, hh, hcs]
theorem ints_one {zs : List Int} : ∀ u ∈ zs.map (Value.int .i64), u.oneCell' = true := by
  intro u hu
  obtain ⟨z, _, rfl⟩ := List.mem_map.1 hu
  rfl
set_option maxHeartbeats 2000000 in
/-- slices.Insert over a row of the call's own. -/
theorem insert_any (A : Option Addr) (n c base i vb : Nat) (zs : List Int) (x : Int) (w : World) (h : OwnI w base (.slice A n c) n zs) (hi : i ≤ n) (hn : n ≤ 1000) (hb : base ≤ w.heap.size)
    (hv : w.cell? ⟨vb, 0, none⟩ = some (.int .i64 x)) (hsh : ∃ t, w.shape? vb = some (t, 1)) (hf0 : w.frozen? ⟨vb, 0, none⟩ = false) (hf1 : w.frozen? ⟨vb, 1, none⟩ = false) (hne : blk A ≠ some vb) :
    Calls Try.prog 52 #[.slice A n c, .int .i64 i, .slice (some ⟨vb, 0, none⟩) 1 1] w fun e w' =>
      ∃ C p, e = .returned (.slice C (n + 1) p) ∧ OwnI w' base (.slice C (n + 1) p) (n + 1) (zs.take i ++ x :: zs.drop i) ∧ Below base w w' := by
  have hl := OwnI.len h
  obtain ⟨i0, hi0, hz0, hz1, hz2⟩ := info_parts info_i64
  rcases Nat.lt_or_ge i n with hin | hin
  · obtain ⟨g, rfl, hnc, hcm⟩ : ∃ g, A = some ⟨g, 0, none⟩ ∧ n ≤ c ∧ c ≤ maxLen := by
      rcases h.2 with ⟨_, h2⟩ | ⟨g, cap, cur, hv, _, _, h3, h4, _⟩
      · omega
      · have e1 : A = some ⟨g, 0, none⟩ ∧ c = cap := by simpa using hv
        obtain ⟨rfl, rfl⟩ := e1
        exact ⟨g, rfl, h3, h4⟩
    have hgb := (World.ownsRow.lt h g rfl)
    have hcl : (zs.map (Value.int .i64)).length = n := by simpa using hl
    have hcs : ∀ j v, (zs.map (Value.int .i64))[j]? = some v → w.cell? ⟨g, j, none⟩ = some v := fun j v hj => by
      rw [World.ownsRow.cellAt h j (by have := (List.getElem?_eq_some_iff.1 hj).1; omega)]; exact hj
    have hvg : vb ≠ g := fun e => hne (by rw [e]; rfl)
    obtain ⟨tV, hsV⟩ := hsh
    rcases Nat.lt_or_ge c (n + 1) with hroom | hroom
    · refine (insert_grow g n c i vb _ (.int .i64 x) w hin hnc hroom (by omega) hcl hcs hv ints_one rfl).mono ?_
      rintro e w' ⟨G, hG1, hG2, rfl, rfl⟩
      generalize hROW : (((zs.map (Value.int .i64)).take i).toArray ++ Builtin.zeroCells (Value.int .i64 0).cells (n + 1 - i) ++ Builtin.zeroCells (Value.int .i64 0).cells (G - (n + 1))) = ROW
      have hRs : ROW.size = G := by rw [← hROW]; simp [Builtin.zeroCells, Value.cells, hl]; omega
      have hRt : ROW.toList.take i = (zs.map (Value.int .i64)).take i := by
        rw [← hROW]
        simp only [Array.toList_append, List.append_assoc]
        rw [List.take_append_of_le_length (by simp; omega), List.take_of_length_le (by simp; omega)]
      have h1 : (w.alloc (.cells ROW 2)).drew.ownsRow base 2 1 (.slice (some ⟨w.heap.size, 0, none⟩) (n + 1) G) (n + 1) (ROW.toList.take (n + 1)) :=
        ⟨by simp; omega, .inr ⟨w.heap.size, G, ROW, rfl, hb, by show (w.heap.push _)[w.heap.size]? = some _; exact Array.getElem?_push_size, hG1, hG2, by omega, by rw [Nat.mul_one]⟩⟩
      have hXl : (ROW.toList.take (n + 1)).length = (zs.map (Value.int .i64)).length + 1 := by rw [hcl]; simp; omega
      have hXt : (ROW.toList.take (n + 1)).take i = (zs.map (Value.int .i64)).take i := by rw [List.take_take, Nat.min_eq_left (by omega), hRt]
      obtain ⟨h2, g2⟩ := own_setCells [.int .i64 x] i h1 (by rw [hXl, hcl]; simp; omega)
      have h2' : ((w.alloc (.cells ROW 2)).drew.setCells w.heap.size i [.int .i64 x]).drew.ownsRow base 2 1 (.slice (some ⟨w.heap.size, 0, none⟩) (n + 1) G) (n + 1) _ := h2
      obtain ⟨h3, g3⟩ := own_setCells ((zs.map (Value.int .i64)).drop i) (i + 1) h2' (by simp [hcl, hXl, hl]; omega)
      have e3 := between (v := Value.int .i64 x) hXl (by omega) hXt
      rw [show i + [Value.int IntKind.i64 x].length = i + 1 from rfl, e3] at h3
      refine ⟨_, _, rfl, ?_, ?_⟩
      · have e4 : (zs.take i ++ x :: zs.drop i).map (Value.int .i64) = (zs.map (Value.int .i64)).take i ++ Value.int .i64 x :: (zs.map (Value.int .i64)).drop i := by simp
        unfold OwnI
        rw [e4]
        exact h3
      · have b1 : Below base w (w.alloc (.cells ROW 2)).drew := ((Below.refl base w).alloc hb _).drew
        have b2 := b1.grown g2 (Nat.le_trans hb b1.size) (fun j e => by injection e with e; omega)
        have b3 : Below base w ((w.alloc (.cells ROW 2)).drew.setCells w.heap.size i [.int .i64 x]).drew := b2.drew
        exact b3.grown g3 (Nat.le_trans hb b3.size) (fun j e => by injection e with e; omega)
    · obtain ⟨u, hm⟩ := ownsRow_more h hroom
      have hsp : ∀ j, j < n + 1 → (w.cell? ⟨g, j, none⟩).isSome = true := fun j hj => by
        rw [World.ownsRow.cellAt hm j (by omega), List.getElem?_eq_getElem (by simp [hl]; omega)]; rfl
      unfold maxLen at hcm
      refine (insert_shift g n c i vb _ (.int .i64 x) w hin hroom (by omega) hvg hcl hcs hsp (fun j _ => World.ownsRow.frozenAt h j) hv ints_one rfl tV _ 1 c hsV (shape_own h) (by omega) hf0 hf1).mono ?_
      rintro e w' ⟨rfl, rfl⟩
      have hmd : w.drew.ownsRow base 2 1 (.slice (some ⟨g, 0, none⟩) (n + 1) c) (n + 1) (zs.map (Value.int .i64) ++ [u]) := hm
      have hXl : (zs.map (Value.int .i64) ++ [u]).length = (zs.map (Value.int .i64)).length + 1 := by simp
      have hXt : (zs.map (Value.int .i64) ++ [u]).take i = (zs.map (Value.int .i64)).take i := List.take_append_of_le_length (by omega)
      obtain ⟨h2, g2⟩ := own_setCells ((zs.map (Value.int .i64)).drop i) (i + 1) hmd (by simp [hl]; omega)
      obtain ⟨h3, g3⟩ := own_setCells [.int .i64 x] i h2 (by simp [hl]; omega)
      rw [between2 (v := Value.int .i64 x) hXl (by omega) hXt] at h3
      refine ⟨_, _, rfl, ?_, ?_⟩
      · have e4 : (zs.take i ++ x :: zs.drop i).map (Value.int .i64) = (zs.map (Value.int .i64)).take i ++ Value.int .i64 x :: (zs.map (Value.int .i64)).drop i := by simp
        unfold OwnI
        rw [e4]
        exact h3
      · have b1 : Below base w w.drew := (Below.refl base w).drew
        have b2 := b1.grown g2 (Nat.le_trans hb b1.size) (fun j e => by injection e with e; omega)
        exact b2.grown g3 (Nat.le_trans hb b2.size) (fun j e => by injection e with e; omega)
  · obtain rfl : i = n := by omega
    have e0 : zs.take i ++ x :: zs.drop i = zs ++ [x] := by rw [List.take_of_length_le (by omega), List.drop_eq_nil_of_le (by omega)]
    rw [e0]
    have fin : ∀ (v1 : Value) (w1 : World), w1.ownsRow base 2 1 v1 (i + 1) (zs.map (Value.int .i64) ++ [.int .i64 x]) → w.grownBy w1 (Value.slice A i c).ownBlock → ∃ C p, v1 = .slice C (i + 1) p ∧ OwnI w1 base (.slice C (i + 1) p) (i + 1) (zs ++ [x]) ∧ Below base w w1 := fun v1 w1 h1 g1 => by
      obtain ⟨C, p, e1, h2⟩ := own_app h1
      exact ⟨C, p, e1, h2, (Below.refl base w).grown g1 hb (fun j e => (World.ownsRow.lt h j e).1)⟩
    cases A with
    | none =>
      have e1 : i = 0 ∧ c = 0 := by
        rcases h.2 with ⟨h1, h2⟩ | ⟨g, cap, cur, hv, _⟩
        · simp at h1; exact ⟨h2, h1.2⟩
        · cases hv
      obtain ⟨rfl, rfl⟩ := e1
      go_enter Try.func52, Try.ntmps52
      go_wp2_with (at_builtin; refine wpList_append_own _ rfl _ _ 22 rfl base 2 i0 (.int .i64 0) 1 8 Try.underlying22 hi0 hz0 hz1 hz2 rfl (by decide) _ _ _ rfl h ⟨vb, 0, none⟩ 1 1 [.int .i64 x] rfl rfl (by intro j u hj; match j, hj with | 0, hj => simp at hj; subst hj; simpa [Addr.add] using hv) (ints_oneCell .i64 [x]) (by unfold maxLen; omega) (by omega) hb ?_; intro v1 w1 hown1 hgrow1 _)
      go_ret
      obtain ⟨C, p, rfl, h2, h3⟩ := fin _ _ hown1 hgrow1
      exact ⟨_, _, rfl, h2, h3⟩
    | some a =>
      obtain ⟨g, e1⟩ : ∃ g, a = ⟨g, 0, none⟩ := by
        rcases h.2 with ⟨h1, h2⟩ | ⟨g, cap, cur, hv, _⟩
        · cases h1
        · exact ⟨g, by simp at hv; exact hv.1⟩
      subst e1
      go_enter Try.func52, Try.ntmps52
      go_wp2_with (at_builtin; refine wpList_append_own _ rfl _ _ 22 rfl base 2 i0 (.int .i64 0) 1 8 Try.underlying22 hi0 hz0 hz1 hz2 rfl (by decide) _ _ _ rfl h ⟨vb, 0, none⟩ 1 1 [.int .i64 x] rfl rfl (by intro j u hj; match j, hj with | 0, hj => simp at hj; subst hj; simpa [Addr.add] using hv) (ints_oneCell .i64 [x]) (by unfold maxLen; omega) (by omega) hb ?_; intro v1 w1 hown1 hgrow1 _)
      all_goals
        go_ret
        obtain ⟨C, p, rfl, h2, h3⟩ := fin _ _ hown1 hgrow1
        exact ⟨_, _, rfl, h2, h3⟩
end Go.Proofs.Ytniifpfhfpcmcaa
