/- A basket that is built up: stakes, layers, border. -/
import Derived.Test.YtopefgahppfkcaaDoorVal1
import Derived.Deep.RegionLaw
import Derived.Deep.AppendLies
namespace Go.Proofs.YtopefgahppfkcaaDoor
open Go.RowKit
set_option linter.unusedVariables false
set_option linter.unusedSimpArgs false

def blk (A : Option Addr) : Option Nat := A.map (·.block)
theorem blk_own (A : Option Addr) (n c : Nat) : (Value.slice A n c).ownBlock = blk A := by cases A <;> rfl
/-- Block q is a basket of the call's own with st stakes, m layers and no border. -/
structure Bk (w : World) (base q : Nat) (st : Int) (m : Nat) : Prop where
  c0 : w.cell? ⟨q, 0, none⟩ = some (.int .i64 st)
  c1 : ∃ C c xs, w.cell? ⟨q, 1, none⟩ = some (.slice C m c) ∧ w.ownsRow base 56 2 (.slice C m c) m xs ∧ blk C ≠ some q
  c2 : w.cell? ⟨q, 2, none⟩ = some (.string ⟨#[]⟩)
  z0 : w.frozen? ⟨q, 0, none⟩ = false
  z1 : w.frozen? ⟨q, 1, none⟩ = false
  z2 : w.frozen? ⟨q, 2, none⟩ = false
  lo : base ≤ q
theorem Bk.lt {w : World} {base q : Nat} {st : Int} {m : Nat} (h : Bk w base q st m) : q < w.heap.size := World.block_lt_of_cell? _ _ h.c0
theorem Bk.keep {w w' : World} {base q : Nat} {st : Int} {m : Nat} (h : Bk w base q st m) (hb : Below w.heap.size w w') : Bk w' base q st m := by
  obtain ⟨C, c, xs, h1, h2, h3⟩ := h.c1
  have hlt := h.lt
  refine ⟨keepc hb h.c0, ⟨C, c, xs, keepc hb h1, ?_, h3⟩, keepc hb h.c2, (hb.frozen (p := ⟨q, 0, none⟩) hlt).trans h.z0, (hb.frozen (p := ⟨q, 1, none⟩) hlt).trans h.z1, (hb.frozen (p := ⟨q, 2, none⟩) hlt).trans h.z2, h.lo⟩
  refine World.ownsRow.kept (row := none) h2 ⟨hb.os, hb.tape, hb.output, hb.size, fun k hk _ => hb.block k hk⟩ ?_
  cases hv : (Value.slice C m c).ownBlock <;> simp
theorem Bk.new (w : World) : Bk (w.alloc (.cells #[.int .i64 0, .slice none 0 0, .string ⟨#[]⟩] 35)) w.heap.size w.heap.size 0 0 :=
  ⟨by go_cell, ⟨none, 0, [], by go_cell, World.ownsRow_nil _ _ _ _, by simp [blk]⟩, by go_cell, by simp, by simp, by simp, Nat.le_refl _⟩
theorem Bk.set0 {w : World} {base q : Nat} {st : Int} {m : Nat} (h : Bk w base q st m) (n : Int) : Bk (w.setCell ⟨q, 0, none⟩ (.int .i64 n)) base q n m := by
  obtain ⟨C, c, xs, h1, h2, h3⟩ := h.c1
  refine ⟨World.cell?_setCell_same _ _ _ h.c0, ⟨C, c, xs, (World.cell?_setCell_other _ _ _ _ (by simp)).trans h1, ?_, h3⟩, (World.cell?_setCell_other _ _ _ _ (by simp)).trans h.c2, by simpa using h.z0, by simpa using h.z1, by simpa using h.z2, h.lo⟩
  refine World.ownsRow.kept (row := some q) h2 (growS w q 0 _) ?_
  rw [blk_own]; exact .inr h3
def NoPost (base : Nat) (w : World) (e : Ending) (w' : World) : Prop := ∃ v : Int, e = .returned (.int .i64 v) ∧ v ≠ 0 ∧ Below w.heap.size w w'
def YesPost (base q : Nat) (st : Int) (m : Nat) (w : World) (e : Ending) (w' : World) : Prop := e = .returned (.int .i64 0) ∧ Bk w' base q st m ∧ Below base w w'
theorem areStakes_eq (n : Int) (v : Bool) (w : World) (h : inB n 3 60 = v) : Calls Tryd.prog 44 #[.int .i64 n] w fun e w' => e = .returned (.bool v) ∧ w = w' := by
  subst h; exact areStakes_any n w
theorem l06Stakes_eq (n : Int) (v : Bool) (w : World) (h : inB n 3 60 = v) : Calls Tryd.prog 51 #[.int .i64 n] w fun e w' => e = .returned (.bool v) ∧ w = w' := by
  subst h; exact l06Stakes_any n w
theorem setStakes_no (base q : Nat) (n : Int) (m : Nat) (w : World) (h : Bk w base q 0 m) (hn : inB n 3 60 = false) : Calls Tryd.prog 31 #[.pointer (some ⟨q, 0, none⟩), .int .i64 n] w (NoPost base w) := by
  have c0 := h.c0
  go_enter Tryd.func31, Tryd.ntmps31
  go_wp2_with fail
  refine (areStakes_eq _ false _ hn).mono ?_
  rintro e w' ⟨rfl, rfl⟩
  go_wp2_with fail
  go_ret
  exact ⟨_, rfl, by decide, Below.refl _ _⟩
theorem setStakes_yes (base q : Nat) (n : Int) (m : Nat) (w : World) (h : Bk w base q 0 m) (hn : inB n 3 60 = true) : Calls Tryd.prog 31 #[.pointer (some ⟨q, 0, none⟩), .int .i64 n] w (YesPost base q n m w) := by
  have c0 := h.c0
  have z0 := h.z0
  go_enter Tryd.func31, Tryd.ntmps31
  go_wp2_with fail
  refine (areStakes_eq _ true _ hn).mono ?_
  rintro e w' ⟨rfl, rfl⟩
  go_wp2_with fail
  go_ret
  exact ⟨rfl, h.set0 n, (Below.refl _ _).setCell h.lo _⟩
theorem l17Stakes_no (base q : Nat) (n : Int) (m : Nat) (w : World) (h : Bk w base q 0 m) (hn : inB n 3 60 = false) : Calls Tryd.prog 40 #[.pointer (some ⟨q, 0, none⟩), .int .i64 n] w (NoPost base w) := by
  have c0 := h.c0
  go_enter Tryd.func40, Tryd.ntmps40
  go_wp2_with fail
  refine (l06Stakes_eq _ false _ hn).mono ?_
  rintro e w' ⟨rfl, rfl⟩
  go_wp2_with fail
  go_ret
  exact ⟨_, rfl, by decide, Below.refl _ _⟩
theorem l17Stakes_yes (base q : Nat) (n : Int) (m : Nat) (w : World) (h : Bk w base q 0 m) (hn : inB n 3 60 = true) : Calls Tryd.prog 40 #[.pointer (some ⟨q, 0, none⟩), .int .i64 n] w (YesPost base q n m w) := by
  have c0 := h.c0
  have z0 := h.z0
  go_enter Tryd.func40, Tryd.ntmps40
  go_wp2_with fail
  refine (l06Stakes_eq _ true _ hn).mono ?_
  rintro e w' ⟨rfl, rfl⟩
  go_wp2_with fail
  go_ret
  exact ⟨rfl, h.set0 n, (Below.refl _ _).setCell h.lo _⟩
def okLay (x : R2) : Bool := okTwo 70 66 12 x.1 && inB x.2 1 100
theorem Box0.alloc {w : World} {base q : Nat} {st : Int} {m : Nat} (h : Box0 (Bk w base q st m)) (o : Obj) : Box0 (Bk (w.alloc o) base q st m) := ⟨h.out.keep ((Below.refl _ _).alloc (Nat.le_refl _) o)⟩
theorem blaylow {w w' : World} {o : Obj} (hb : Below (w.alloc o).heap.size (w.alloc o) w') : Below w.heap.size w w' := Below.trans ((Below.refl _ _).alloc (Nat.le_refl _) o) (hb.mono (by simp))
theorem withinE (n a b : Int) (v : Bool) (w : World) (h : inB n a b = v) : Calls Tryd.prog 26 #[.int .i64 n, .int .i64 a, .int .i64 b] w fun e w' => e = .returned (.bool v) ∧ w = w' := by
  rw [← h]; exact within_any n a b w
theorem l00InE (n a b : Int) (v : Bool) (w : World) (h : inB n a b = v) : Calls Tryd.prog 24 #[.int .i64 n, .int .i64 a, .int .i64 b] w fun e w' => e = .returned (.bool v) ∧ w = w' := by
  rw [← h]; exact l00In_any n a b w
theorem addLayer_no (base q : Nat) (st : Int) (m : Nat) (x : R2) (w : World) (h : Bk w base q st m) (hx : x.1.size ≤ maxLen) (hb : base ≤ w.heap.size) (hn : okLay x = false ∨ st = 0 ∨ m = 40) (hm : m ≤ 40) : Calls Tryd.prog 32 #[.pointer (some ⟨q, 0, none⟩), .agg #[.string x.1, .int .i64 x.2]] w (NoPost base w) := by
  have hlt := h.lt
  have hK := h.keep ((Below.refl _ _).alloc (Nat.le_refl _) (.cells #[.string x.1, .int .i64 x.2] 56))
  cases h1 : okTwo 70 66 12 x.1
  · go_enter Tryd.func32, Tryd.ntmps32
    go_wp2_with fail
    refine (validStroke_eq _ false _ hx h1).mono ?_
    rintro e w' ⟨rfl, hb1⟩
    go_wp2_with fail
    go_ret
    exact ⟨_, rfl, by decide, blaylow hb1⟩
  cases h2 : inB x.2 1 100
  · go_enter Tryd.func32, Tryd.ntmps32
    go_wp2_with fail
    refine (validStroke_eq _ true _ hx h1).mono ?_
    rintro e w' ⟨rfl, hb1⟩
    obtain ⟨hc, hf⟩ := bcell hb1
    go_wp2_with fail
    refine (withinE _ _ _ false _ h2).mono ?_
    rintro e w'' ⟨rfl, rfl⟩
    go_wp2_with fail
    go_ret
    exact ⟨_, rfl, by decide, blaylow hb1⟩
  have hok : okLay x = true := by simp [okLay, h1, h2]
  by_cases h3 : st = 0
  · subst h3
    go_enter Tryd.func32, Tryd.ntmps32
    go_wp2_with fail
    refine (validStroke_eq _ true _ hx h1).mono ?_
    rintro e w' ⟨rfl, hb1⟩
    obtain ⟨hc, hf⟩ := bcell hb1
    have k0 := (hK.keep hb1).c0
    go_wp2_with fail
    refine (withinE _ _ _ true _ h2).mono ?_
    rintro e w'' ⟨rfl, rfl⟩
    clear hc hf
    go_wp2_with fail
    go_ret
    exact ⟨_, rfl, by decide, blaylow hb1⟩
  · obtain rfl : m = 40 := by
      rcases hn with hn | hn | hn
      · rw [hok] at hn; exact absurd hn (by simp)
      · exact absurd hn h3
      · exact hn
    have t3 : (st == 0) = false := by simpa using h3
    clear h3
    go_enter Tryd.func32, Tryd.ntmps32
    go_wp2_with fail
    refine (validStroke_eq _ true _ hx h1).mono ?_
    rintro e w' ⟨rfl, hb1⟩
    obtain ⟨hc, hf⟩ := bcell hb1
    have hK1 := hK.keep hb1
    have k0 := hK1.c0
    obtain ⟨C, c, xs, k1, ho, hne⟩ := hK1.c1
    have k2 := hK1.c2
    go_wp2_with fail
    refine (withinE _ _ _ true _ h2).mono ?_
    rintro e w'' ⟨rfl, rfl⟩
    clear hc hf
    go_wp2_with fail
    go_ret
    exact ⟨_, rfl, by decide, blaylow hb1⟩
theorem l17Layer_no (base q : Nat) (st : Int) (m : Nat) (x : R2) (w : World) (h : Bk w base q st m) (hx : x.1.size ≤ maxLen) (hb : base ≤ w.heap.size) (hn : okLay x = false ∨ st = 0 ∨ m = 40) (hm : m ≤ 40) : Calls Tryd.prog 41 #[.pointer (some ⟨q, 0, none⟩), .agg #[.string x.1, .int .i64 x.2]] w (NoPost base w) := by
  have hlt := h.lt
  have hK := h.keep ((Below.refl _ _).alloc (Nat.le_refl _) (.cells #[.string x.1, .int .i64 x.2] 56))
  cases h1 : okTwo 70 66 12 x.1
  · go_enter Tryd.func41, Tryd.ntmps41
    go_wp2_with fail
    refine (l06Ok_eq _ false _ hx h1).mono ?_
    rintro e w' ⟨rfl, hb1⟩
    go_wp2_with fail
    go_ret
    exact ⟨_, rfl, by decide, blaylow hb1⟩
  cases h2 : inB x.2 1 100
  · go_enter Tryd.func41, Tryd.ntmps41
    go_wp2_with fail
    refine (l06Ok_eq _ true _ hx h1).mono ?_
    rintro e w' ⟨rfl, hb1⟩
    obtain ⟨hc, hf⟩ := bcell hb1
    go_wp2_with fail
    refine (l00InE _ _ _ false _ h2).mono ?_
    rintro e w'' ⟨rfl, rfl⟩
    go_wp2_with fail
    go_ret
    exact ⟨_, rfl, by decide, blaylow hb1⟩
  have hok : okLay x = true := by simp [okLay, h1, h2]
  by_cases h3 : st = 0
  · subst h3
    go_enter Tryd.func41, Tryd.ntmps41
    go_wp2_with fail
    refine (l06Ok_eq _ true _ hx h1).mono ?_
    rintro e w' ⟨rfl, hb1⟩
    obtain ⟨hc, hf⟩ := bcell hb1
    have k0 := (hK.keep hb1).c0
    go_wp2_with fail
    refine (l00InE _ _ _ true _ h2).mono ?_
    rintro e w'' ⟨rfl, rfl⟩
    clear hc hf
    go_wp2_with fail
    go_ret
    exact ⟨_, rfl, by decide, blaylow hb1⟩
  · obtain rfl : m = 40 := by
      rcases hn with hn | hn | hn
      · rw [hok] at hn; exact absurd hn (by simp)
      · exact absurd hn h3
      · exact hn
    have t3 : (st == 0) = false := by simpa using h3
    clear h3
    go_enter Tryd.func41, Tryd.ntmps41
    go_wp2_with fail
    refine (l06Ok_eq _ true _ hx h1).mono ?_
    rintro e w' ⟨rfl, hb1⟩
    obtain ⟨hc, hf⟩ := bcell hb1
    have hK1 := hK.keep hb1
    have k0 := hK1.c0
    obtain ⟨C, c, xs, k1, ho, hne⟩ := hK1.c1
    have k2 := hK1.c2
    go_wp2_with fail
    refine (l00InE _ _ _ true _ h2).mono ?_
    rintro e w'' ⟨rfl, rfl⟩
    clear hc hf
    go_wp2_with fail
    go_ret
    exact ⟨_, rfl, by decide, blaylow hb1⟩
end Go.Proofs.YtopefgahppfkcaaDoor
