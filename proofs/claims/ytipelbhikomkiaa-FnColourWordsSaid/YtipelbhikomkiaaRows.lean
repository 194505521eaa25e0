/-
  No cell of these rows narrows 'for every input' (looked for: loops, veiled, ifaces, maps, wideKeys, modest, calm, conditions, laid).
  DERIVED. THE GIVEN ROWS OF THIS SEAT. 11 by the template 'for every input the law returns true; each argument reads behind the call as it read before'; 0 by the template 'total and deterministic' (their statements: YtipelbhikomkiaaTotals.lean).
  GIVEN WITH THE SEED: the statements are not yours to turn. If you find one false, say at which input.
  Laid BY PROGRAM, IN A SANDBOX (cutbox-rows.mjs): the forced cells as the released guide's own fill.sh prints them over the translation f4a98eab14692c9c… (all of the seat's roots in one cut). By AI agents, Wed Nov 11 2026. No macro, syntax, notation, axiom, sorry.
-/
import Derived.Test.YtipelbhikomkiaaChecked
import GoSem.Claim
import GoSem.ClaimJoined
import GoSem.ClaimMapViews
import Derived.JoinedTies
import Derived.KernelRfl
namespace Go.Proofs.Ytipelbhikomkiaa
/- THE CELL 'sum', in the pinned program and in every row, IS THE sha256 OF THE DUMP (.gsa) THAT YtipelbhikomkiaaProg.lean LOADS. Nothing in Lean hashes anything: it is a label: what it is worth is what the hold of that sum in a sandbox is worth. -/
noncomputable def Try.pinned : Pinned := { name := "ytipelbhikomkiaa", sum := "f4a98eab14692c9c2d6ad8be2eba5d73485c1b2d1d68e642cc9c31ad565d5932", checked := Try.checked }
namespace Rows
def none {H : Type} : Left H := { results := [], args := [] }

/-- 'laws.FnExactValidWord': WHATEVER THE INPUT: true; the input reads as it did. -/
def fnExactValidWordSpec : ChangeSpec := { name := "fnExactValidWord", fn := fun _ => fun
  | [d] => { results := [.lit (.bool true)], args := [d] }
  | _ => none }
def fnExactValidWordRow : OpenClaim := { program := "ytipelbhikomkiaa", sum := "f4a98eab14692c9c2d6ad8be2eba5d73485c1b2d1d68e642cc9c31ad565d5932", func := "loop.example/g01064/laws.FnExactValidWord", spec := "fnExactValidWord", apart := false }
def FnExactValidWordSaid : Prop := fnExactValidWordRow.holds Try.pinned (OpenSpec.ofChange fnExactValidWordSpec)

/-- ITS FALSE NEIGHBOUR: 'it returns false'. Refute it at one input. -/
def fnExactValidWordWrong : ChangeSpec := { name := "fnExactValidWord", fn := fun _ => fun
  | [d] => { results := [.lit (.bool false)], args := [d] }
  | _ => none }
def FnExactValidWordWrongFalsely : Prop := fnExactValidWordRow.holds Try.pinned (OpenSpec.ofChange fnExactValidWordWrong)

/-- 'laws.FnExactSameRows': WHATEVER THE INPUT: true; the input reads as it did. -/
def fnExactSameRowsSpec : ChangeSpec := { name := "fnExactSameRows", fn := fun _ => fun
  | [d1, d2, d3] => { results := [.lit (.bool true)], args := [d1, d2, d3] }
  | _ => none }
def fnExactSameRowsRow : OpenClaim := { program := "ytipelbhikomkiaa", sum := "f4a98eab14692c9c2d6ad8be2eba5d73485c1b2d1d68e642cc9c31ad565d5932", func := "loop.example/g01064/laws.FnExactSameRows", spec := "fnExactSameRows", apart := false }
def FnExactSameRowsSaid : Prop := fnExactSameRowsRow.holds Try.pinned (OpenSpec.ofChange fnExactSameRowsSpec)

/-- ITS FALSE NEIGHBOUR: 'it returns false'. Refute it at one input. -/
def fnExactSameRowsWrong : ChangeSpec := { name := "fnExactSameRows", fn := fun _ => fun
  | [d1, d2, d3] => { results := [.lit (.bool false)], args := [d1, d2, d3] }
  | _ => none }
def FnExactSameRowsWrongFalsely : Prop := fnExactSameRowsRow.holds Try.pinned (OpenSpec.ofChange fnExactSameRowsWrong)

/-- 'laws.FnExactSpiralOf': WHATEVER THE INPUT: true; the input reads as it did. -/
def fnExactSpiralOfSpec : ChangeSpec := { name := "fnExactSpiralOf", fn := fun _ => fun
  | [d1, d2] => { results := [.lit (.bool true)], args := [d1, d2] }
  | _ => none }
def fnExactSpiralOfRow : OpenClaim := { program := "ytipelbhikomkiaa", sum := "f4a98eab14692c9c2d6ad8be2eba5d73485c1b2d1d68e642cc9c31ad565d5932", func := "loop.example/g01064/laws.FnExactSpiralOf", spec := "fnExactSpiralOf", apart := false }
def FnExactSpiralOfSaid : Prop := fnExactSpiralOfRow.holds Try.pinned (OpenSpec.ofChange fnExactSpiralOfSpec)

/-- ITS FALSE NEIGHBOUR: 'it returns false'. Refute it at one input. -/
def fnExactSpiralOfWrong : ChangeSpec := { name := "fnExactSpiralOf", fn := fun _ => fun
  | [d1, d2] => { results := [.lit (.bool false)], args := [d1, d2] }
  | _ => none }
def FnExactSpiralOfWrongFalsely : Prop := fnExactSpiralOfRow.holds Try.pinned (OpenSpec.ofChange fnExactSpiralOfWrong)

/-- 'laws.FnExactCountColour': WHATEVER THE INPUT: true; the input reads as it did. -/
def fnExactCountColourSpec : ChangeSpec := { name := "fnExactCountColour", fn := fun _ => fun
  | [d1, d2, d3, d4] => { results := [.lit (.bool true)], args := [d1, d2, d3, d4] }
  | _ => none }
def fnExactCountColourRow : OpenClaim := { program := "ytipelbhikomkiaa", sum := "f4a98eab14692c9c2d6ad8be2eba5d73485c1b2d1d68e642cc9c31ad565d5932", func := "loop.example/g01064/laws.FnExactCountColour", spec := "fnExactCountColour", apart := false }
def FnExactCountColourSaid : Prop := fnExactCountColourRow.holds Try.pinned (OpenSpec.ofChange fnExactCountColourSpec)

/-- ITS FALSE NEIGHBOUR: 'it returns false'. Refute it at one input. -/
def fnExactCountColourWrong : ChangeSpec := { name := "fnExactCountColour", fn := fun _ => fun
  | [d1, d2, d3, d4] => { results := [.lit (.bool false)], args := [d1, d2, d3, d4] }
  | _ => none }
def FnExactCountColourWrongFalsely : Prop := fnExactCountColourRow.holds Try.pinned (OpenSpec.ofChange fnExactCountColourWrong)

/-- 'laws.FnExactRowsAgain': WHATEVER THE INPUT: true; the input reads as it did. -/
def fnExactRowsAgainSpec : ChangeSpec := { name := "fnExactRowsAgain", fn := fun _ => fun
  | [d1, d2] => { results := [.lit (.bool true)], args := [d1, d2] }
  | _ => none }
def fnExactRowsAgainRow : OpenClaim := { program := "ytipelbhikomkiaa", sum := "f4a98eab14692c9c2d6ad8be2eba5d73485c1b2d1d68e642cc9c31ad565d5932", func := "loop.example/g01064/laws.FnExactRowsAgain", spec := "fnExactRowsAgain", apart := false }
def FnExactRowsAgainSaid : Prop := fnExactRowsAgainRow.holds Try.pinned (OpenSpec.ofChange fnExactRowsAgainSpec)

/-- ITS FALSE NEIGHBOUR: 'it returns false'. Refute it at one input. -/
def fnExactRowsAgainWrong : ChangeSpec := { name := "fnExactRowsAgain", fn := fun _ => fun
  | [d1, d2] => { results := [.lit (.bool false)], args := [d1, d2] }
  | _ => none }
def FnExactRowsAgainWrongFalsely : Prop := fnExactRowsAgainRow.holds Try.pinned (OpenSpec.ofChange fnExactRowsAgainWrong)

/-- 'laws.FnExactRowOf': WHATEVER THE INPUT: true; the input reads as it did. -/
def fnExactRowOfSpec : ChangeSpec := { name := "fnExactRowOf", fn := fun _ => fun
  | [d1, d2, d3] => { results := [.lit (.bool true)], args := [d1, d2, d3] }
  | _ => none }
def fnExactRowOfRow : OpenClaim := { program := "ytipelbhikomkiaa", sum := "f4a98eab14692c9c2d6ad8be2eba5d73485c1b2d1d68e642cc9c31ad565d5932", func := "loop.example/g01064/laws.FnExactRowOf", spec := "fnExactRowOf", apart := false }
def FnExactRowOfSaid : Prop := fnExactRowOfRow.holds Try.pinned (OpenSpec.ofChange fnExactRowOfSpec)

/-- ITS FALSE NEIGHBOUR: 'it returns false'. Refute it at one input. -/
def fnExactRowOfWrong : ChangeSpec := { name := "fnExactRowOf", fn := fun _ => fun
  | [d1, d2, d3] => { results := [.lit (.bool false)], args := [d1, d2, d3] }
  | _ => none }
def FnExactRowOfWrongFalsely : Prop := fnExactRowOfRow.holds Try.pinned (OpenSpec.ofChange fnExactRowOfWrong)

/-- 'laws.FnExactStripesWith': WHATEVER THE INPUT: true; the input reads as it did. -/
def fnExactStripesWithSpec : ChangeSpec := { name := "fnExactStripesWith", fn := fun _ => fun
  | [d1, d2] => { results := [.lit (.bool true)], args := [d1, d2] }
  | _ => none }
def fnExactStripesWithRow : OpenClaim := { program := "ytipelbhikomkiaa", sum := "f4a98eab14692c9c2d6ad8be2eba5d73485c1b2d1d68e642cc9c31ad565d5932", func := "loop.example/g01064/laws.FnExactStripesWith", spec := "fnExactStripesWith", apart := false }
def FnExactStripesWithSaid : Prop := fnExactStripesWithRow.holds Try.pinned (OpenSpec.ofChange fnExactStripesWithSpec)

/-- ITS FALSE NEIGHBOUR: 'it returns false'. Refute it at one input. -/
def fnExactStripesWithWrong : ChangeSpec := { name := "fnExactStripesWith", fn := fun _ => fun
  | [d1, d2] => { results := [.lit (.bool false)], args := [d1, d2] }
  | _ => none }
def FnExactStripesWithWrongFalsely : Prop := fnExactStripesWithRow.holds Try.pinned (OpenSpec.ofChange fnExactStripesWithWrong)

/-- 'laws.FnExactShortestWord': WHATEVER THE INPUT: true; the input reads as it did. -/
def fnExactShortestWordSpec : ChangeSpec := { name := "fnExactShortestWord", fn := fun _ => fun
  | [d] => { results := [.lit (.bool true)], args := [d] }
  | _ => none }
def fnExactShortestWordRow : OpenClaim := { program := "ytipelbhikomkiaa", sum := "f4a98eab14692c9c2d6ad8be2eba5d73485c1b2d1d68e642cc9c31ad565d5932", func := "loop.example/g01064/laws.FnExactShortestWord", spec := "fnExactShortestWord", apart := false }
def FnExactShortestWordSaid : Prop := fnExactShortestWordRow.holds Try.pinned (OpenSpec.ofChange fnExactShortestWordSpec)

/-- ITS FALSE NEIGHBOUR: 'it returns false'. Refute it at one input. -/
def fnExactShortestWordWrong : ChangeSpec := { name := "fnExactShortestWord", fn := fun _ => fun
  | [d] => { results := [.lit (.bool false)], args := [d] }
  | _ => none }
def FnExactShortestWordWrongFalsely : Prop := fnExactShortestWordRow.holds Try.pinned (OpenSpec.ofChange fnExactShortestWordWrong)

/-- 'laws.FnExactWordFor': WHATEVER THE INPUT: true; the input reads as it did. -/
def fnExactWordForSpec : ChangeSpec := { name := "fnExactWordFor", fn := fun _ => fun
  | [d1, d2] => { results := [.lit (.bool true)], args := [d1, d2] }
  | _ => none }
def fnExactWordForRow : OpenClaim := { program := "ytipelbhikomkiaa", sum := "f4a98eab14692c9c2d6ad8be2eba5d73485c1b2d1d68e642cc9c31ad565d5932", func := "loop.example/g01064/laws.FnExactWordFor", spec := "fnExactWordFor", apart := false }
def FnExactWordForSaid : Prop := fnExactWordForRow.holds Try.pinned (OpenSpec.ofChange fnExactWordForSpec)

/-- ITS FALSE NEIGHBOUR: 'it returns false'. Refute it at one input. -/
def fnExactWordForWrong : ChangeSpec := { name := "fnExactWordFor", fn := fun _ => fun
  | [d1, d2] => { results := [.lit (.bool false)], args := [d1, d2] }
  | _ => none }
def FnExactWordForWrongFalsely : Prop := fnExactWordForRow.holds Try.pinned (OpenSpec.ofChange fnExactWordForWrong)

/-- 'laws.FnSpirals': WHATEVER THE INPUT: true; the input reads as it did. -/
def fnSpiralsSpec : ChangeSpec := { name := "fnSpirals", fn := fun _ => fun
  | [d1, d2] => { results := [.lit (.bool true)], args := [d1, d2] }
  | _ => none }
def fnSpiralsRow : OpenClaim := { program := "ytipelbhikomkiaa", sum := "f4a98eab14692c9c2d6ad8be2eba5d73485c1b2d1d68e642cc9c31ad565d5932", func := "loop.example/g01064/laws.FnSpirals", spec := "fnSpirals", apart := false }
def FnSpiralsSaid : Prop := fnSpiralsRow.holds Try.pinned (OpenSpec.ofChange fnSpiralsSpec)

/-- ITS FALSE NEIGHBOUR: 'it returns false'. Refute it at one input. -/
def fnSpiralsWrong : ChangeSpec := { name := "fnSpirals", fn := fun _ => fun
  | [d1, d2] => { results := [.lit (.bool false)], args := [d1, d2] }
  | _ => none }
def FnSpiralsWrongFalsely : Prop := fnSpiralsRow.holds Try.pinned (OpenSpec.ofChange fnSpiralsWrong)

/-- 'laws.FnColourWords': WHATEVER THE INPUT: true; the input reads as it did. -/
def fnColourWordsSpec : ChangeSpec := { name := "fnColourWords", fn := fun _ => fun
  | [d1, d2] => { results := [.lit (.bool true)], args := [d1, d2] }
  | _ => none }
def fnColourWordsRow : OpenClaim := { program := "ytipelbhikomkiaa", sum := "f4a98eab14692c9c2d6ad8be2eba5d73485c1b2d1d68e642cc9c31ad565d5932", func := "loop.example/g01064/laws.FnColourWords", spec := "fnColourWords", apart := false }
def FnColourWordsSaid : Prop := fnColourWordsRow.holds Try.pinned (OpenSpec.ofChange fnColourWordsSpec)

/-- ITS FALSE NEIGHBOUR: 'it returns false'. Refute it at one input. -/
def fnColourWordsWrong : ChangeSpec := { name := "fnColourWords", fn := fun _ => fun
  | [d1, d2] => { results := [.lit (.bool false)], args := [d1, d2] }
  | _ => none }
def FnColourWordsWrongFalsely : Prop := fnColourWordsRow.holds Try.pinned (OpenSpec.ofChange fnColourWordsWrong)

/- THE SECOND FORM. 'bulk': how many values and letters a reading holds, each counted each time it is reached (what is shared counts as often as it is met; a slice's spare places count too). A statement '..UptoSaid' is the law's where the arguments, and the package variables that the reading takes, are together of bulk at most 1048576: NARROWER than '..Said'. Prove '..Said' where nothing that the law and all that it calls make is longer than what came in: it says more and counts as full. Else prove '..UptoSaid'. A law counts once. -/
mutual
def uptoBulk {H : Type} : DataW H → Nat
  | .lit (.string bytes) => bytes.length + 1
  | .lit _ => 1
  | .nil => 1
  | .ptr d => uptoBulk d + 1
  | .slice elems spare => uptoBulkAll elems + uptoBulkAll spare + 1
  | .agg parts => uptoBulkAll parts + 1
  | .iface _ d => uptoBulk d + 1
  | .map entries => uptoBulkEntries entries + 1
  | .held _ => 1
def uptoBulkAll {H : Type} : List (DataW H) → Nat
  | [] => 0
  | d :: r => uptoBulk d + uptoBulkAll r
def uptoBulkEntries {H : Type} : List (Lit × DataW H) → Nat
  | [] => 0
  | x :: r => uptoBulkEntry x + uptoBulkEntries r
def uptoBulkEntry {H : Type} : Lit × DataW H → Nat
  | (.string bytes, d) => bytes.length + uptoBulk d + 1
  | (_, d) => uptoBulk d + 1
 end
def uptoSmall : (H : Type) → List (DataW H) → Bool := fun _ ds => decide (uptoBulkAll ds ≤ 1048576)
def OpenSpec.upto (s : _root_.Go.ChangeSpec) : _root_.Go.OpenSpec := { _root_.Go.OpenSpec.ofChange s with cond := some uptoSmall }

/-- 'laws.FnExactValidWord', WHERE WHAT IT READS IS OF BULK AT MOST 1048576: true; the input reads as it did. -/
def fnExactValidWordUptoRow : OpenClaim := { program := "ytipelbhikomkiaa", sum := "f4a98eab14692c9c2d6ad8be2eba5d73485c1b2d1d68e642cc9c31ad565d5932", func := "loop.example/g01064/laws.FnExactValidWord", spec := "fnExactValidWord", apart := false, narrowed := true }
def FnExactValidWordUptoSaid : Prop := fnExactValidWordUptoRow.holds Try.pinned (OpenSpec.upto fnExactValidWordSpec)

/-- 'laws.FnExactSameRows', WHERE WHAT IT READS IS OF BULK AT MOST 1048576: true; the input reads as it did. -/
def fnExactSameRowsUptoRow : OpenClaim := { program := "ytipelbhikomkiaa", sum := "f4a98eab14692c9c2d6ad8be2eba5d73485c1b2d1d68e642cc9c31ad565d5932", func := "loop.example/g01064/laws.FnExactSameRows", spec := "fnExactSameRows", apart := false, narrowed := true }
def FnExactSameRowsUptoSaid : Prop := fnExactSameRowsUptoRow.holds Try.pinned (OpenSpec.upto fnExactSameRowsSpec)

/-- 'laws.FnExactSpiralOf', WHERE WHAT IT READS IS OF BULK AT MOST 1048576: true; the input reads as it did. -/
def fnExactSpiralOfUptoRow : OpenClaim := { program := "ytipelbhikomkiaa", sum := "f4a98eab14692c9c2d6ad8be2eba5d73485c1b2d1d68e642cc9c31ad565d5932", func := "loop.example/g01064/laws.FnExactSpiralOf", spec := "fnExactSpiralOf", apart := false, narrowed := true }
def FnExactSpiralOfUptoSaid : Prop := fnExactSpiralOfUptoRow.holds Try.pinned (OpenSpec.upto fnExactSpiralOfSpec)

/-- 'laws.FnExactCountColour', WHERE WHAT IT READS IS OF BULK AT MOST 1048576: true; the input reads as it did. -/
def fnExactCountColourUptoRow : OpenClaim := { program := "ytipelbhikomkiaa", sum := "f4a98eab14692c9c2d6ad8be2eba5d73485c1b2d1d68e642cc9c31ad565d5932", func := "loop.example/g01064/laws.FnExactCountColour", spec := "fnExactCountColour", apart := false, narrowed := true }
def FnExactCountColourUptoSaid : Prop := fnExactCountColourUptoRow.holds Try.pinned (OpenSpec.upto fnExactCountColourSpec)

/-- 'laws.FnExactRowsAgain', WHERE WHAT IT READS IS OF BULK AT MOST 1048576: true; the input reads as it did. -/
def fnExactRowsAgainUptoRow : OpenClaim := { program := "ytipelbhikomkiaa", sum := "f4a98eab14692c9c2d6ad8be2eba5d73485c1b2d1d68e642cc9c31ad565d5932", func := "loop.example/g01064/laws.FnExactRowsAgain", spec := "fnExactRowsAgain", apart := false, narrowed := true }
def FnExactRowsAgainUptoSaid : Prop := fnExactRowsAgainUptoRow.holds Try.pinned (OpenSpec.upto fnExactRowsAgainSpec)

/-- 'laws.FnExactRowOf', WHERE WHAT IT READS IS OF BULK AT MOST 1048576: true; the input reads as it did. -/
def fnExactRowOfUptoRow : OpenClaim := { program := "ytipelbhikomkiaa", sum := "f4a98eab14692c9c2d6ad8be2eba5d73485c1b2d1d68e642cc9c31ad565d5932", func := "loop.example/g01064/laws.FnExactRowOf", spec := "fnExactRowOf", apart := false, narrowed := true }
def FnExactRowOfUptoSaid : Prop := fnExactRowOfUptoRow.holds Try.pinned (OpenSpec.upto fnExactRowOfSpec)

/-- 'laws.FnExactStripesWith', WHERE WHAT IT READS IS OF BULK AT MOST 1048576: true; the input reads as it did. -/
def fnExactStripesWithUptoRow : OpenClaim := { program := "ytipelbhikomkiaa", sum := "f4a98eab14692c9c2d6ad8be2eba5d73485c1b2d1d68e642cc9c31ad565d5932", func := "loop.example/g01064/laws.FnExactStripesWith", spec := "fnExactStripesWith", apart := false, narrowed := true }
def FnExactStripesWithUptoSaid : Prop := fnExactStripesWithUptoRow.holds Try.pinned (OpenSpec.upto fnExactStripesWithSpec)

/-- 'laws.FnExactShortestWord', WHERE WHAT IT READS IS OF BULK AT MOST 1048576: true; the input reads as it did. -/
def fnExactShortestWordUptoRow : OpenClaim := { program := "ytipelbhikomkiaa", sum := "f4a98eab14692c9c2d6ad8be2eba5d73485c1b2d1d68e642cc9c31ad565d5932", func := "loop.example/g01064/laws.FnExactShortestWord", spec := "fnExactShortestWord", apart := false, narrowed := true }
def FnExactShortestWordUptoSaid : Prop := fnExactShortestWordUptoRow.holds Try.pinned (OpenSpec.upto fnExactShortestWordSpec)

/-- 'laws.FnExactWordFor', WHERE WHAT IT READS IS OF BULK AT MOST 1048576: true; the input reads as it did. -/
def fnExactWordForUptoRow : OpenClaim := { program := "ytipelbhikomkiaa", sum := "f4a98eab14692c9c2d6ad8be2eba5d73485c1b2d1d68e642cc9c31ad565d5932", func := "loop.example/g01064/laws.FnExactWordFor", spec := "fnExactWordFor", apart := false, narrowed := true }
def FnExactWordForUptoSaid : Prop := fnExactWordForUptoRow.holds Try.pinned (OpenSpec.upto fnExactWordForSpec)

/-- 'laws.FnSpirals', WHERE WHAT IT READS IS OF BULK AT MOST 1048576: true; the input reads as it did. -/
def fnSpiralsUptoRow : OpenClaim := { program := "ytipelbhikomkiaa", sum := "f4a98eab14692c9c2d6ad8be2eba5d73485c1b2d1d68e642cc9c31ad565d5932", func := "loop.example/g01064/laws.FnSpirals", spec := "fnSpirals", apart := false, narrowed := true }
def FnSpiralsUptoSaid : Prop := fnSpiralsUptoRow.holds Try.pinned (OpenSpec.upto fnSpiralsSpec)

/-- 'laws.FnColourWords', WHERE WHAT IT READS IS OF BULK AT MOST 1048576: true; the input reads as it did. -/
def fnColourWordsUptoRow : OpenClaim := { program := "ytipelbhikomkiaa", sum := "f4a98eab14692c9c2d6ad8be2eba5d73485c1b2d1d68e642cc9c31ad565d5932", func := "loop.example/g01064/laws.FnColourWords", spec := "fnColourWords", apart := false, narrowed := true }
def FnColourWordsUptoSaid : Prop := fnColourWordsUptoRow.holds Try.pinned (OpenSpec.upto fnColourWordsSpec)

end Rows
end Go.Proofs.Ytipelbhikomkiaa
