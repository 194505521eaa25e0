/- Tables of pairs that the call itself makes; l00Min, l00Max. -/
import Derived.Test.YtniifpfhfpcmcaaMostF
import Derived.Test.YtniifpfhfpcmcaaPair
namespace Go.Proofs.Ytniifpfhfpcmcaa
open Go.RowKit
set_option linter.unusedVariables false
set_option linter.unusedSimpArgs false

theorem l00MinQ (a b v : Int) (w : World) (h : min a b = v) : Calls Try.prog 70 #[.int .i64 a, .int .i64 b] w fun e w' => e = .returned (.int .i64 v) ∧ w = w' := by
  by_cases hab : a < b
  · obtain rfl : a = v := by omega
    go_enter Try.func70, Try.ntmps70
    go_wp2
    go_ret
    exact ⟨rfl, rfl⟩
  · obtain rfl : b = v := by omega
    go_enter Try.func70, Try.ntmps70
    go_wp2
    go_ret
    exact ⟨rfl, rfl⟩
theorem l00MaxQ (a b v : Int) (w : World) (h : max a b = v) : Calls Try.prog 60 #[.int .i64 a, .int .i64 b] w fun e w' => e = .returned (.int .i64 v) ∧ w = w' := by
  by_cases hab : b < a
  · obtain rfl : a = v := by omega
    go_enter Try.func60, Try.ntmps60
    go_wp2
    go_ret
    exact ⟨rfl, rfl⟩
  · obtain rfl : b = v := by omega
    go_enter Try.func60, Try.ntmps60
    go_wp2
    go_ret
    exact ⟨rfl, rfl⟩

/-- Row g of the table at block B lies in block r and holds x, y. -/
structure RowT (w : World) (base B r g : Nat) (x y : Int) : Prop where
  cB : w.cell? ⟨B, g, none⟩ = some (.slice (some ⟨r, 0, none⟩) 2 2)
  c0 : w.cell? ⟨r, 0, none⟩ = some (.int .i64 x)
  c1 : w.cell? ⟨r, 1, none⟩ = some (.int .i64 y)
  z0 : w.frozen? ⟨r, 0, none⟩ = false
  z1 : w.frozen? ⟨r, 1, none⟩ = false
  lo : base ≤ r
  ne : r ≠ B
  lt : r < w.heap.size
def Tab (w : World) (base B n : Nat) (rs : Nat → Nat) (T : Nat → Bool → Int) : Prop :=
  base ≤ B ∧ B < w.heap.size ∧ (∀ g, g < n → RowT w base B (rs g) g (T g false) (T g true)) ∧ ∀ g g', g < n → g' < n → rs g = rs g' → g = g'
def TabP (w : World) (base B j n : Nat) (rs : Nat → Nat) : Prop :=
  Tab w base B j rs (fun _ _ => -1) ∧ ∀ g, g < n → (∃ u, w.cell? ⟨B, g, none⟩ = some u) ∧ w.frozen? ⟨B, g, none⟩ = false
theorem RowT.keep {w w' : World} {base B r g : Nat} {x y : Int} (h : RowT w base B r g x y) (hb : Below w.heap.size w w') : RowT w' base B r g x y :=
  ⟨keepc hb h.cB, keepc hb h.c0, keepc hb h.c1, (hb.frozen (p := ⟨r, 0, none⟩) h.lt).trans h.z0, (hb.frozen (p := ⟨r, 1, none⟩) h.lt).trans h.z1, h.lo, h.ne, Nat.lt_of_lt_of_le h.lt hb.size⟩
theorem RowT.other {w : World} {base B r g p o : Nat} {x y : Int} {v : Value} (h : RowT w base B r g x y) (h1 : p ≠ r) (h2 : p ≠ B ∨ o ≠ g) : RowT (w.setCell ⟨p, o, none⟩ v) base B r g x y :=
  ⟨by rw [World.cell?_setCell_other _ _ _ _ (by simp; omega)]; exact h.cB,
   by rw [World.cell?_setCell_other _ _ _ _ (by simp [h1])]; exact h.c0,
   by rw [World.cell?_setCell_other _ _ _ _ (by simp [h1])]; exact h.c1,
   by simpa using h.z0, by simpa using h.z1, h.lo, h.ne, by simpa using h.lt⟩
theorem Tab.keep {w w' : World} {base B n : Nat} {rs : Nat → Nat} {T : Nat → Bool → Int} (h : Tab w base B n rs T) (hb : Below w.heap.size w w') : Tab w' base B n rs T :=
  ⟨h.1, Nat.lt_of_lt_of_le h.2.1 hb.size, fun g hg => (h.2.2.1 g hg).keep hb, h.2.2.2⟩
theorem Tab.congr {w : World} {base B n : Nat} {rs : Nat → Nat} {T T' : Nat → Bool → Int} (h : Tab w base B n rs T) (e : ∀ g a, g < n → T g a = T' g a) : Tab w base B n rs T' :=
  ⟨h.1, h.2.1, fun g hg => by rw [← e g false hg, ← e g true hg]; exact h.2.2.1 g hg, h.2.2.2⟩
theorem Tab.lower {w : World} {base base' B n : Nat} {rs : Nat → Nat} {T : Nat → Bool → Int} (h : Tab w base B n rs T) (hb : base' ≤ base) : Tab w base' B n rs T :=
  ⟨Nat.le_trans hb h.1, h.2.1, fun g hg => by obtain ⟨a1, a2, a3, a4, a5, a6, a7, a8⟩ := h.2.2.1 g hg; exact ⟨a1, a2, a3, a4, a5, Nat.le_trans hb a6, a7, a8⟩, h.2.2.2⟩
def updT (T : Nat → Bool → Int) (g : Nat) (a : Bool) (v : Int) : Nat → Bool → Int := fun g' a' => if g' = g ∧ a' = a then v else T g' a'
theorem Tab.set0 {w : World} {base B n g : Nat} {rs : Nat → Nat} {T : Nat → Bool → Int} (h : Tab w base B n rs T) (hg : g < n) (v : Int) : Tab (w.setCell ⟨rs g, 0, none⟩ (.int .i64 v)) base B n rs (updT T g false v) := by
  obtain ⟨h1, h2, h3, h4⟩ := h
  refine ⟨h1, by simpa using h2, fun g' hg' => ?_, h4⟩
  have hr := h3 g' hg'
  by_cases e : g' = g
  · subst e
    have e1 : updT T g' false v g' false = v := by simp [updT]
    have e2 : updT T g' false v g' true = T g' true := by simp [updT]
    rw [e1, e2]
    refine ⟨?_, ?_, ?_, by simpa using hr.z0, by simpa using hr.z1, hr.lo, hr.ne, by simpa using hr.lt⟩
    · rw [World.cell?_setCell_other _ _ _ _ (by have := hr.ne; simp [this])]; exact hr.cB
    · rw [World.cell?_setCell_same _ _ _ hr.c0]
    · rw [World.cell?_setCell_other _ _ _ _ (by simp)]; exact hr.c1
  · have e1 : updT T g false v g' false = T g' false := by simp [updT, e]
    have e2 : updT T g false v g' true = T g' true := by simp [updT, e]
    rw [e1, e2]
    exact hr.other (fun e2 => e (h4 g' g hg' hg e2.symm)) (.inl (h3 g hg).ne)
theorem Tab.set1 {w : World} {base B n g : Nat} {rs : Nat → Nat} {T : Nat → Bool → Int} (h : Tab w base B n rs T) (hg : g < n) (v : Int) : Tab (w.setCell ⟨rs g, 1, none⟩ (.int .i64 v)) base B n rs (updT T g true v) := by
  obtain ⟨h1, h2, h3, h4⟩ := h
  refine ⟨h1, by simpa using h2, fun g' hg' => ?_, h4⟩
  have hr := h3 g' hg'
  by_cases e : g' = g
  · subst e
    have e1 : updT T g' true v g' false = T g' false := by simp [updT]
    have e2 : updT T g' true v g' true = v := by simp [updT]
    rw [e1, e2]
    refine ⟨?_, ?_, ?_, by simpa using hr.z0, by simpa using hr.z1, hr.lo, hr.ne, by simpa using hr.lt⟩
    · rw [World.cell?_setCell_other _ _ _ _ (by have := hr.ne; simp [this])]; exact hr.cB
    · rw [World.cell?_setCell_other _ _ _ _ (by simp)]; exact hr.c0
    · rw [World.cell?_setCell_same _ _ _ hr.c1]
  · have e1 : updT T g true v g' false = T g' false := by simp [updT, e]
    have e2 : updT T g true v g' true = T g' true := by simp [updT, e]
    rw [e1, e2]
    exact hr.other (fun e2 => e (h4 g' g hg' hg e2.symm)) (.inl (h3 g hg).ne)
theorem tabP_start {w : World} {base B n : Nat} {xs : List Value} (h : w.ownsRow base 22 1 (.slice (some ⟨B, 0, none⟩) n n) n xs) : TabP w base B 0 n (fun _ => 0) := by
  obtain ⟨h1, h2⟩ := World.ownsRow.lt h B rfl
  refine ⟨⟨h1, h2, fun g hg => by omega, fun g g' hg => by omega⟩, fun g hg => ⟨?_, World.ownsRow.frozenAt h g⟩⟩
  have hl : xs.length = n * 1 := h.1
  rw [World.ownsRow.cellAt h g (by omega)]
  exact ⟨xs[g]'(by omega), List.getElem?_eq_getElem _⟩
theorem tabP_step {w : World} {base B j n : Nat} {rs : Nat → Nat} (h : TabP w base B j n rs) (hj : j < n) (hb : base ≤ w.heap.size) : TabP ((w.alloc (.cells #[.int .i64 (-1), .int .i64 (-1)] 2)).setCell ⟨B, j, none⟩ (.slice (some ⟨w.heap.size, 0, none⟩) 2 2)) base B (j + 1) n (fun g => if g = j then w.heap.size else rs g) := by
  have hk : Below w.heap.size w (w.alloc (.cells #[.int .i64 (-1), .int .i64 (-1)] 2)) := (Below.refl _ _).alloc (Nat.le_refl _) _
  obtain ⟨⟨h1, h2, h3, h4⟩, h5⟩ := h
  have n0 : (w.alloc (.cells #[.int .i64 (-1), .int .i64 (-1)] 2)).cell? ⟨w.heap.size, 0, none⟩ = some (.int .i64 (-1)) := by go_cell
  have n1 : (w.alloc (.cells #[.int .i64 (-1), .int .i64 (-1)] 2)).cell? ⟨w.heap.size, 1, none⟩ = some (.int .i64 (-1)) := by go_cell
  have f0 : (w.alloc (.cells #[.int .i64 (-1), .int .i64 (-1)] 2)).frozen? ⟨w.heap.size, 0, none⟩ = false := by simp
  have f1 : (w.alloc (.cells #[.int .i64 (-1), .int .i64 (-1)] 2)).frozen? ⟨w.heap.size, 1, none⟩ = false := by simp
  have hsz : (w.alloc (.cells #[.int .i64 (-1), .int .i64 (-1)] 2)).heap.size = w.heap.size + 1 := by simp
  have h5' : ∀ g, g < n → (∃ u, (w.alloc (.cells #[.int .i64 (-1), .int .i64 (-1)] 2)).cell? ⟨B, g, none⟩ = some u) ∧ (w.alloc (.cells #[.int .i64 (-1), .int .i64 (-1)] 2)).frozen? ⟨B, g, none⟩ = false := fun g hg => by
    obtain ⟨⟨u, hu⟩, hf⟩ := h5 g hg
    exact ⟨⟨u, keepc hk hu⟩, (hk.frozen (p := ⟨B, g, none⟩) h2).trans hf⟩
  have h3' : ∀ g, g < j → RowT (w.alloc (.cells #[.int .i64 (-1), .int .i64 (-1)] 2)) base B (rs g) g (-1) (-1) ∧ rs g < w.heap.size := fun g hg => ⟨(h3 g hg).keep hk, (h3 g hg).lt⟩
  clear hk h3 h5
  generalize w.alloc (.cells #[.int .i64 (-1), .int .i64 (-1)] 2) = wa at *
  refine ⟨⟨h1, by simp; omega, fun g hg => ?_, fun g g' hg hg' e => ?_⟩, fun g hg => ⟨?_, ?_⟩⟩
  · by_cases e : g = j
    · subst e
      show RowT _ base B (if g = g then w.heap.size else rs g) g (-1) (-1)
      rw [if_pos rfl]
      obtain ⟨⟨u, hu⟩, hf⟩ := h5' g hj
      refine ⟨?_, ?_, ?_, by simpa using f0, by simpa using f1, hb, by omega, by simp; omega⟩
      · rw [World.cell?_setCell_same _ _ _ hu]
      · rw [World.cell?_setCell_other _ _ _ _ (by have hne : B ≠ w.heap.size := by omega
                                                  simp [hne])]; exact n0
      · rw [World.cell?_setCell_other _ _ _ _ (by have hne : B ≠ w.heap.size := by omega
                                                  simp [hne])]; exact n1
    · show RowT _ base B (if g = j then w.heap.size else rs g) g (-1) (-1)
      rw [if_neg e]
      have hr := (h3' g (by omega)).1
      exact hr.other (fun e2 => hr.ne e2.symm) (.inr (fun e2 => e e2.symm))
  · simp only at e
    by_cases e1 : g = j
    · by_cases e2 : g' = j
      · omega
      · rw [if_pos e1, if_neg e2] at e
        have := (h3' g' (by omega)).2
        omega
    · by_cases e2 : g' = j
      · rw [if_neg e1, if_pos e2] at e
        have := (h3' g (by omega)).2
        omega
      · rw [if_neg e1, if_neg e2] at e
        exact h4 g g' (by omega) (by omega) e
  · obtain ⟨⟨u, hu⟩, _⟩ := h5' g hg
    by_cases e : g = j
    · subst e; exact ⟨_, World.cell?_setCell_same _ _ _ hu⟩
    · exact ⟨u, by rw [World.cell?_setCell_other _ _ _ _ (by have hne : ¬ j = g := fun e2 => e e2.symm
                                                             simp [hne])]; exact hu⟩
  · simpa using (h5' g hg).2
theorem tab0_upd (last : Bool) : updT (fun _ _ => -1) 0 last 0 = tab0 last := by
  funext g a; rfl
/-- The next table while row g of the old one is being read: j of its two numbers are done. -/
def nv0 (brk : Nat → Bool) (k : Nat) (T : Nat → Bool → Int) (g : Nat) : Nat → Int
  | 0 => -1
  | 1 => if 0 ≤ T g false ∧ brk k = false then T g false else -1
  | _ => tabS brk k T g false
def nv1 (brk : Nat → Bool) (k : Nat) (T : Nat → Bool → Int) (g : Nat) : Nat → Int
  | 0 => -1
  | 1 => if 0 ≤ T g false then T g false + 1 else -1
  | _ => tabS brk k T (g + 1) true
def nxT (brk : Nat → Bool) (k : Nat) (T : Nat → Bool → Int) (g j : Nat) (g' : Nat) (a : Bool) : Int :=
  match a with
  | false => if g' < g then tabS brk k T g' false else if g' = g then nv0 brk k T g j else -1
  | true => if g' ≤ g then tabS brk k T g' true else if g' = g + 1 then nv1 brk k T g j else -1
theorem tabS_f {brk : Nat → Bool} {k : Nat} {T : Nat → Bool → Int} {g : Nat} : tabS brk k T g false = max (if 0 ≤ T g false ∧ brk k = false then max (-1) (T g false) else -1) (if 0 ≤ T g true then T g true + 1 else -1) := rfl
theorem tabS_t {brk : Nat → Bool} {k : Nat} {T : Nat → Bool → Int} {g : Nat} : tabS brk k T (g + 1) true = max (if 0 ≤ T g false then max (-1) (T g false + 1) else -1) (if 0 ≤ T g true then T g true + 1 else -1) := rfl
theorem nxT_f {brk : Nat → Bool} {k : Nat} {T : Nat → Bool → Int} {g : Nat} (j : Nat) : nxT brk k T g j g false = nv0 brk k T g j := by
  show (if g < g then _ else if g = g then _ else _) = _
  rw [if_neg (by omega), if_pos rfl]
theorem nxT_t {brk : Nat → Bool} {k : Nat} {T : Nat → Bool → Int} {g : Nat} (j : Nat) : nxT brk k T g j (g + 1) true = nv1 brk k T g j := by
  show (if g + 1 ≤ g then _ else if g + 1 = g + 1 then _ else _) = _
  rw [if_neg (by omega), if_pos rfl]
theorem nxT_else {brk : Nat → Bool} {k : Nat} {T : Nat → Bool → Int} {g i j g' : Nat} {a : Bool} (h1 : ¬ (g' = g ∧ a = false)) (h2 : ¬ (g' = g + 1 ∧ a = true)) : nxT brk k T g i g' a = nxT brk k T g j g' a := by
  cases a
  · have : g' ≠ g := fun e => h1 ⟨e, rfl⟩
    unfold nxT; simp only [if_neg this]
  · have : g' ≠ g + 1 := fun e => h2 ⟨e, rfl⟩
    unfold nxT; simp only [if_neg this]
theorem nxT_start {brk : Nat → Bool} {k : Nat} {T : Nat → Bool → Int} (g' : Nat) (a : Bool) : (-1 : Int) = nxT brk k T 0 0 g' a := by
  cases a
  · show (-1 : Int) = if g' < 0 then tabS brk k T g' false else if g' = 0 then -1 else -1
    rw [if_neg (by omega)]; split <;> rfl
  · show (-1 : Int) = if g' ≤ 0 then tabS brk k T g' true else if g' = 0 + 1 then -1 else -1
    by_cases h : g' ≤ 0
    · obtain rfl : g' = 0 := by omega
      rw [if_pos h]; rfl
    · rw [if_neg h]; split <;> rfl
theorem nxT_next {brk : Nat → Bool} {k : Nat} {T : Nat → Bool → Int} (g g' : Nat) (a : Bool) : nxT brk k T g 2 g' a = nxT brk k T (g + 1) 0 g' a := by
  cases a
  · show (if g' < g then tabS brk k T g' false else if g' = g then tabS brk k T g false else -1) = if g' < g + 1 then tabS brk k T g' false else if g' = g + 1 then -1 else -1
    by_cases h1 : g' < g
    · rw [if_pos h1, if_pos (by omega)]
    · by_cases h2 : g' = g
      · subst h2; rw [if_neg h1, if_pos rfl, if_pos (by omega)]
      · rw [if_neg h1, if_neg h2, if_neg (by omega)]; split <;> rfl
  · show (if g' ≤ g then tabS brk k T g' true else if g' = g + 1 then tabS brk k T (g + 1) true else -1) = if g' ≤ g + 1 then tabS brk k T g' true else if g' = g + 1 + 1 then -1 else -1
    by_cases h1 : g' ≤ g
    · rw [if_pos h1, if_pos (by omega)]
    · by_cases h2 : g' = g + 1
      · subst h2; rw [if_neg h1, if_pos rfl, if_pos (by omega)]
      · rw [if_neg h1, if_neg h2, if_neg (by omega)]; split <;> rfl
theorem nxT_end {brk : Nat → Bool} {k : Nat} {T : Nat → Bool → Int} {n : Nat} (g' : Nat) (a : Bool) (h : g' < n) : nxT brk k T n 0 g' a = tabS brk k T g' a := by
  cases a
  · show (if g' < n then _ else _) = _
    rw [if_pos h]
  · show (if g' ≤ n then _ else _) = _
    rw [if_pos (by omega)]
/-- Nothing is to be read there. -/
theorem nv0_same {brk : Nat → Bool} {k : Nat} {T : Nat → Bool → Int} {g i j : Nat} (h0 : nv0 brk k T g i = nv0 brk k T g j) (h1 : nv1 brk k T g i = nv1 brk k T g j) (g' : Nat) (a : Bool) : nxT brk k T g i g' a = nxT brk k T g j g' a := by
  by_cases e2 : g' = g + 1 ∧ a = true
  · rw [e2.1, e2.2, nxT_t, nxT_t, h1]
  · by_cases e1 : g' = g ∧ a = false
    · rw [e1.1, e1.2, nxT_f, nxT_f, h0]
    · exact nxT_else e1 e2
theorem nxT_skip0 {brk : Nat → Bool} {k : Nat} {T : Nat → Bool → Int} {g : Nat} (h : T g false < 0) (g' : Nat) (a : Bool) : nxT brk k T g 0 g' a = nxT brk k T g 1 g' a :=
  nv0_same (by show (-1 : Int) = if _ then _ else _; rw [if_neg (by omega)]) (by show (-1 : Int) = if _ then _ else _; rw [if_neg (by omega)]) g' a
theorem nxT_skip1 {brk : Nat → Bool} {k : Nat} {T : Nat → Bool → Int} {g : Nat} (h : T g true < 0) (h0 : -1 ≤ T g false) (g' : Nat) (a : Bool) : nxT brk k T g 1 g' a = nxT brk k T g 2 g' a :=
  nv0_same (by show (if 0 ≤ T g false ∧ brk k = false then T g false else -1) = tabS brk k T g false
               rw [tabS_f, if_neg (show ¬ 0 ≤ T g true by omega)]; split <;> omega)
    (by show (if 0 ≤ T g false then T g false + 1 else -1) = tabS brk k T (g + 1) true
        rw [tabS_t, if_neg (show ¬ 0 ≤ T g true by omega)]; split <;> omega) g' a
/-- The number with the gap ahead unused is read. -/
theorem nxT_one {brk : Nat → Bool} {k : Nat} {T : Nat → Bool → Int} {g : Nat} (h : 0 ≤ T g false) (hb : brk k = true) (g' : Nat) (a : Bool) : updT (nxT brk k T g 0) (g + 1) true (max (-1) (T g false + 1)) g' a = nxT brk k T g 1 g' a := by
  unfold updT
  by_cases h2 : g' = g + 1 ∧ a = true
  · rw [if_pos h2, h2.1, h2.2, nxT_t]
    show max (-1) (T g false + 1) = if _ then _ else _
    rw [if_pos h]; omega
  · rw [if_neg h2]
    by_cases h1 : g' = g ∧ a = false
    · rw [h1.1, h1.2, nxT_f, nxT_f]
      show (-1 : Int) = if _ then _ else _
      rw [if_neg (by rw [hb]; simp)]
    · exact nxT_else h1 h2
theorem nxT_both0 {brk : Nat → Bool} {k : Nat} {T : Nat → Bool → Int} {g : Nat} (h : 0 ≤ T g false) (hb : brk k = false) (g' : Nat) (a : Bool) : updT (updT (nxT brk k T g 0) g false (max (-1) (T g false))) (g + 1) true (max (-1) (T g false + 1)) g' a = nxT brk k T g 1 g' a := by
  unfold updT
  by_cases h2 : g' = g + 1 ∧ a = true
  · rw [if_pos h2, h2.1, h2.2, nxT_t]
    show max (-1) (T g false + 1) = if _ then _ else _
    rw [if_pos h]; omega
  · rw [if_neg h2]
    by_cases h1 : g' = g ∧ a = false
    · rw [if_pos h1, h1.1, h1.2, nxT_f]
      show max (-1) (T g false) = if _ then _ else _
      rw [if_pos ⟨h, hb⟩]; omega
    · rw [if_neg h1]; exact nxT_else h1 h2
theorem nxT_both1 {brk : Nat → Bool} {k : Nat} {T : Nat → Bool → Int} {g : Nat} (h : 0 ≤ T g true) (h0 : -1 ≤ T g false) (g' : Nat) (a : Bool) : updT (updT (nxT brk k T g 1) g false (max (nxT brk k T g 1 g false) (T g true + 1))) (g + 1) true (max (nxT brk k T g 1 (g + 1) true) (T g true + 1)) g' a = nxT brk k T g 2 g' a := by
  unfold updT
  by_cases h2 : g' = g + 1 ∧ a = true
  · rw [if_pos h2, h2.1, h2.2, nxT_t, nxT_t]
    show max (if 0 ≤ T g false then T g false + 1 else -1) _ = tabS brk k T (g + 1) true
    rw [tabS_t, if_pos h]
    split <;> omega
  · rw [if_neg h2]
    by_cases h1 : g' = g ∧ a = false
    · rw [if_pos h1, h1.1, h1.2, nxT_f, nxT_f]
      show max (if 0 ≤ T g false ∧ brk k = false then T g false else -1) _ = tabS brk k T g false
      rw [tabS_f, if_pos h]
      split <;> omega
    · rw [if_neg h1]; exact nxT_else h1 h2
/-- .. where row g + 1 lies outside the table. -/
theorem nxT_last0 {brk : Nat → Bool} {k : Nat} {T : Nat → Bool → Int} {g n : Nat} (h : 0 ≤ T g false) (hb : brk k = false) (hn : ¬ g + 1 < n) (g' : Nat) (a : Bool) (hg : g' < n) : updT (nxT brk k T g 0) g false (max (-1) (T g false)) g' a = nxT brk k T g 1 g' a := by
  rw [← nxT_both0 h hb g' a]
  conv => rhs; unfold updT
  rw [if_neg (by omega)]; rfl
theorem nxT_last00 {brk : Nat → Bool} {k : Nat} {T : Nat → Bool → Int} {g n : Nat} (h : 0 ≤ T g false) (hb : brk k = true) (hn : ¬ g + 1 < n) (g' : Nat) (a : Bool) (hg : g' < n) : nxT brk k T g 0 g' a = nxT brk k T g 1 g' a := by
  rw [← nxT_one h hb g' a]
  unfold updT
  rw [if_neg (by omega)]
theorem nxT_last1 {brk : Nat → Bool} {k : Nat} {T : Nat → Bool → Int} {g n : Nat} (h : 0 ≤ T g true) (h0 : -1 ≤ T g false) (hn : ¬ g + 1 < n) (g' : Nat) (a : Bool) (hg : g' < n) : updT (nxT brk k T g 1) g false (max (nxT brk k T g 1 g false) (T g true + 1)) g' a = nxT brk k T g 2 g' a := by
  rw [← nxT_both1 h h0 g' a]
  conv => rhs; unfold updT
  rw [if_neg (by omega)]; rfl
theorem tabK_bd (brk : Nat → Bool) (last : Bool) (k g : Nat) (a : Bool) : -1 ≤ tabK brk last k g a ∧ tabK brk last k g a ≤ k := by
  obtain ⟨h1, h2, _⟩ := good_K brk last k g a
  refine ⟨h1, ?_⟩
  rcases Int.lt_or_le (tabK brk last k g a) 0 with h | h
  · omega
  · obtain ⟨c, e, hr⟩ := h2 h
    have := (reach_bd hr).1
    omega
theorem nxT_bd {brk : Nat → Bool} {k : Nat} {T : Nat → Bool → Int} (hT : ∀ g a, -1 ≤ T g a ∧ T g a ≤ k) (g j g' : Nat) (a : Bool) : -1 ≤ nxT brk k T g j g' a ∧ nxT brk k T g j g' a ≤ k + 1 := by
  have hS : ∀ g a, -1 ≤ tabS brk k T g a ∧ tabS brk k T g a ≤ k + 1 := by
    intro g a
    cases a
    · have := hT g false; have := hT g true
      rw [tabS_f]; split <;> split <;> omega
    · cases g with
      | zero => show (-1 : Int) ≤ -1 ∧ (-1 : Int) ≤ k + 1; omega
      | succ g => have := hT g false; have := hT g true; rw [tabS_t]; split <;> split <;> omega
  have h1 := hS g' a
  have h2 := hS g false
  have h3 := hS (g + 1) true
  have h4 := hT g false
  have v0 : -1 ≤ nv0 brk k T g j ∧ nv0 brk k T g j ≤ k + 1 := by
    match j with
    | 0 => show (-1 : Int) ≤ -1 ∧ (-1 : Int) ≤ k + 1; omega
    | 1 => unfold nv0; split <;> omega
    | _ + 2 => exact h2
  have v1 : -1 ≤ nv1 brk k T g j ∧ nv1 brk k T g j ≤ k + 1 := by
    match j with
    | 0 => show (-1 : Int) ≤ -1 ∧ (-1 : Int) ≤ k + 1; omega
    | 1 => unfold nv1; split <;> omega
    | _ + 2 => exact h3
  cases a <;> unfold nxT <;> simp only
  · split
    · exact h1
    · split
      · exact v0
      · omega
  · split
    · exact h1
    · split
      · exact v1
      · omega
end Go.Proofs.Ytniifpfhfpcmcaa
