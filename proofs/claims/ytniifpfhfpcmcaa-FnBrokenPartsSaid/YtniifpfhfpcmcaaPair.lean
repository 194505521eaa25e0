/- Slices of pairs ([][]int64, each inner slice of two numbers). -/
import Derived.Test.YtniifpfhfpcmcaaIntR
import Derived.Deep.RegionHeld3
namespace Go.Proofs.Ytniifpfhfpcmcaa
open Go.RowKit
set_option linter.unusedVariables false
set_option linter.unusedSimpArgs false

theorem info_ss : (Try.prog.info? 22).map (fun i => (i.zero, i.size, i.bytes)) = some (some (.slice none 0 0), 1, 24) := by kernel_rfl
/-- An inner slice. -/
def inn (g : Nat) : Value := .slice (some ⟨g, 0, none⟩) 2 2
def pairObj (p : Int × Int) : Obj := .cells #[.int .i64 p.1, .int .i64 p.2] 2 (0, 0)
/-- v, of n elements, owns pairs. -/
def OwnP (w : World) (base : Nat) (v : Value) (n : Nat) (ps : List (Int × Int)) : Prop :=
  ps.length = n ∧ ∃ gs : List Nat, gs.length = n ∧ w.ownsRow base 22 1 v n (gs.map inn) ∧ gs.Nodup ∧ ∀ (j g : Nat) (p : Int × Int), gs[j]? = some g → ps[j]? = some p → base ≤ g ∧ v.ownBlock ≠ some g ∧ w.heap[g]? = some (pairObj p)
theorem OwnP.len {w : World} {base : Nat} {v : Value} {n : Nat} {ps : List (Int × Int)} (h : OwnP w base v n ps) : ps.length = n := h.1
theorem lt_of_heap {w : World} {g : Nat} {o : Obj} (h : w.heap[g]? = some o) : g < w.heap.size := (Array.getElem?_eq_some_iff.1 h).1
theorem OwnP.keep {w w' : World} {base : Nat} {v : Value} {n : Nat} {ps : List (Int × Int)} (h : OwnP w base v n ps) (hb : Below w.heap.size w w') : OwnP w' base v n ps := by
  obtain ⟨hl, gs, h1, h2, h3, h4⟩ := h
  refine ⟨hl, gs, h1, ?_, h3, fun j g p hg hp => ?_⟩
  · refine World.ownsRow.kept (row := none) h2 ⟨hb.os, hb.tape, hb.output, hb.size, fun k hk _ => hb.block k hk⟩ ?_
    cases hv : v.ownBlock <;> simp
  · obtain ⟨a1, a2, a3⟩ := h4 j g p hg hp
    exact ⟨a1, a2, (hb.block g (lt_of_heap a3)).trans a3⟩
theorem OwnP.start (w : World) (base : Nat) (hb : base ≤ w.heap.size) : OwnP (w.alloc (.cells #[] 22)) base (.slice (some ⟨w.heap.size, 0, none⟩) 0 0) 0 [] :=
  ⟨rfl, [], rfl, World.ownsRow_made _ _ _ hb (by unfold maxLen; omega) (by simp), by simp, fun j g p hg => by simp at hg⟩
theorem OwnP.nil (w : World) (base : Nat) : OwnP w base (.slice none 0 0) 0 [] :=
  ⟨rfl, [], rfl, World.ownsRow_nil _ _ _ _, by simp, fun j g p hg => by simp at hg⟩
/-- Pair k, in place. -/
theorem OwnP.at_ {w : World} {base n c : Nat} {A : Option Addr} {ps : List (Int × Int)} (h : OwnP w base (.slice A n c) n ps) {k : Nat} (hk : k < n) :
    ∃ b g p, A = some ⟨b, 0, none⟩ ∧ ps[k]? = some p ∧ w.cell? ⟨b, k, none⟩ = some (.slice (some ⟨g, 0, none⟩) 2 2) ∧ w.cell? ⟨g, 0, none⟩ = some (.int .i64 p.1) ∧ w.cell? ⟨g, 1, none⟩ = some (.int .i64 p.2) ∧ base ≤ b ∧ base ≤ g ∧ b < w.heap.size := by
  obtain ⟨hl, gs, h1, h2, h3, h4⟩ := h
  have hg : gs[k]? = some (gs[k]'(by omega)) := List.getElem?_eq_getElem _
  have hp : ps[k]? = some (ps[k]'(by omega)) := List.getElem?_eq_getElem _
  obtain ⟨a1, a2, a3⟩ := h4 k _ _ hg hp
  rcases h2.2 with ⟨_, h0⟩ | ⟨b, cap, cur, hv, _⟩
  · omega
  have hv' : A = some ⟨b, 0, none⟩ ∧ c = cap := by simpa using hv
  obtain ⟨rfl, rfl⟩ := hv'
  have hlt := World.ownsRow.lt h2 b rfl
  refine ⟨b, gs[k]'(by omega), ps[k]'(by omega), rfl, hp, ?_, ?_, ?_, hlt.1, a1, hlt.2⟩
  · rw [World.ownsRow.cellAt h2 k (by omega), List.getElem?_map, hg]; rfl
  · rw [cell_of_row w _ 0 _ _ _ a3]; rfl
  · rw [cell_of_row w _ 1 _ _ _ a3]; rfl
/-- A pair is appended. -/
theorem OwnP.app {wr w1 : World} {base n g1 cap : Nat} {v : Value} {gs : List Nat} {ps : List (Int × Int)} {p : Int × Int} {o : Obj} (hbase : base ≤ wr.heap.size) (hl : ps.length = n) (h1 : gs.length = n) (h2 : wr.ownsRow base 22 1 v n (gs.map inn)) (h3 : gs.Nodup)
    (h4 : ∀ (j g : Nat) (q : Int × Int), gs[j]? = some g → ps[j]? = some q → base ≤ g ∧ v.ownBlock ≠ some g ∧ wr.heap[g]? = some (pairObj q))
    (hown : w1.ownsRow base 22 1 (.slice (some ⟨g1, 0, none⟩) (n + 1) cap) (n + 1) (gs.map inn ++ [.slice (some ⟨wr.heap.size, 0, none⟩) 2 2]))
    (hg : ((wr.alloc (.cells #[.int .i64 p.1, .int .i64 p.2] 2)).alloc o).grownBy w1 v.ownBlock) (hat : v.ownBlock = some g1 ∨ g1 = wr.heap.size + 1 + 1) :
    OwnP w1 base (.slice (some ⟨g1, 0, none⟩) (n + 1) cap) (n + 1) (ps ++ [p]) := by
  have hlt : ∀ g ∈ gs, g < wr.heap.size := fun g hm => by
    obtain ⟨j, hj, rfl⟩ := List.mem_iff_getElem.1 hm
    exact lt_of_heap (h4 j _ (ps[j]'(by omega)) (List.getElem?_eq_getElem _) (List.getElem?_eq_getElem _)).2.2
  have hvl : ∀ k, v.ownBlock = some k → k < wr.heap.size := fun k hk => (World.ownsRow.lt h2 k hk).2
  have hblk : ∀ k, k < wr.heap.size → v.ownBlock ≠ some k → w1.heap[k]? = wr.heap[k]? := fun k hk hne => by
    rw [hg.block k (by simp; omega) (fun e => hne e.symm)]
    rw [Below.heap_alloc _ _ _ (by simp; omega), Below.heap_alloc _ _ _ hk]
  refine ⟨by simp [hl], gs ++ [wr.heap.size], by simp [h1], ?_, ?_, fun j g q hgj hpj => ?_⟩
  · rw [List.map_append]; exact hown
  · rw [List.nodup_append]
    refine ⟨h3, by simp, fun a ha b hb => ?_⟩
    have := hlt a ha
    simp at hb
    omega
  · by_cases hj : j < n
    · rw [List.getElem?_append_left (by omega)] at hgj
      rw [List.getElem?_append_left (by omega)] at hpj
      obtain ⟨a1, a2, a3⟩ := h4 j g q hgj hpj
      have hgl := lt_of_heap a3
      refine ⟨a1, ?_, (hblk g hgl a2).trans a3⟩
      simp only [Value.ownBlock, ne_eq, Option.some.injEq]
      rintro rfl
      rcases hat with h | h
      · exact a2 h
      · omega
    · have hjn : j = n := by
        have := (List.getElem?_eq_some_iff.1 hgj).1
        simp [h1] at this
        omega
      subst hjn
      rw [List.getElem?_append_right (by omega)] at hgj
      rw [List.getElem?_append_right (by omega)] at hpj
      simp [h1] at hgj
      simp [hl] at hpj
      subst hgj hpj
      refine ⟨hbase, ?_, ?_⟩
      · simp only [Value.ownBlock, ne_eq, Option.some.injEq]
        rintro rfl
        rcases hat with h | h
        · exact absurd (hvl _ h) (by omega)
        · omega
      · rw [hg.block wr.heap.size (by simp; omega) (fun e => absurd (hvl _ e.symm) (by omega)), Below.heap_alloc _ _ _ (by simp), heap_alloc_new]
        rfl
theorem below_app2 {w wr w1 : World} {e size n : Nat} {v : Value} {xs : List Value} {o o2 : Obj} (hB : Below w.heap.size w wr) (hown : wr.ownsRow w.heap.size e size v n xs) (hg : ((wr.alloc o).alloc o2).grownBy w1 v.ownBlock) : Below w.heap.size w w1 := by
  have hs := hB.size
  exact ((hB.alloc hs o).alloc (by simp; omega) o2).grown hg (by simp; omega) (fun k hk => (World.ownsRow.lt hown k hk).1)
end Go.Proofs.Ytniifpfhfpcmcaa
