/-
  No cell of these rows narrows 'for every input' (looked for: loops, veiled, ifaces, maps, wideKeys, modest, calm, conditions, laid).
  DERIVED. THE GIVEN ROWS OF THIS SEAT. 10 by the template 'for every input the law returns true; each argument reads behind the call as it read before'; 0 by the template 'total and deterministic' (their statements: YtniifpfhfpcmcaaTotals.lean).
  GIVEN WITH THE SEED: the statements are not yours to turn. If you find one false, say at which input.
  Laid BY PROGRAM, IN A SANDBOX (cutbox-rows.mjs): the forced cells as the released guide's own fill.sh prints them over the translation 12d320ce0efa9f48… (all of the seat's roots in one cut). By AI agents, Wed Nov 11 2026. No macro, syntax, notation, axiom, sorry.
-/
import Derived.Test.YtniifpfhfpcmcaaChecked
import GoSem.Claim
import GoSem.ClaimJoined
import GoSem.ClaimMapViews
import Derived.JoinedTies
import Derived.KernelRfl
namespace Go.Proofs.Ytniifpfhfpcmcaa
/- THE CELL 'sum', in the pinned program and in every row, IS THE sha256 OF THE DUMP (.gsa) THAT YtniifpfhfpcmcaaProg.lean LOADS. Nothing in Lean hashes anything: it is a label: what it is worth is what the hold of that sum in a sandbox is worth. -/
noncomputable def Try.pinned : Pinned := { name := "ytniifpfhfpcmcaa", sum := "12d320ce0efa9f480c3651a60bcef0804a41b4d307b2ae6a731192232cc1a39f", checked := Try.checked }
namespace Rows
def none {H : Type} : Left H := { results := [], args := [] }

/-- 'laws.FnExactValidBroken': WHATEVER THE INPUT: true; the input reads as it did. -/
def fnExactValidBrokenSpec : ChangeSpec := { name := "fnExactValidBroken", fn := fun _ => fun
  | [d1, d2] => { results := [.lit (.bool true)], args := [d1, d2] }
  | _ => none }
def fnExactValidBrokenRow : OpenClaim := { program := "ytniifpfhfpcmcaa", sum := "12d320ce0efa9f480c3651a60bcef0804a41b4d307b2ae6a731192232cc1a39f", func := "loop.example/g01064/laws.FnExactValidBroken", spec := "fnExactValidBroken", apart := false }
def FnExactValidBrokenSaid : Prop := fnExactValidBrokenRow.holds Try.pinned (OpenSpec.ofChange fnExactValidBrokenSpec)

/-- ITS FALSE NEIGHBOUR: 'it returns false'. Refute it at one input. -/
def fnExactValidBrokenWrong : ChangeSpec := { name := "fnExactValidBroken", fn := fun _ => fun
  | [d1, d2] => { results := [.lit (.bool false)], args := [d1, d2] }
  | _ => none }
def FnExactValidBrokenWrongFalsely : Prop := fnExactValidBrokenRow.holds Try.pinned (OpenSpec.ofChange fnExactValidBrokenWrong)

/-- 'laws.FnRepairs': WHATEVER THE INPUT: true; the input reads as it did. -/
def fnRepairsSpec : ChangeSpec := { name := "fnRepairs", fn := fun _ => fun
  | [d1, d2] => { results := [.lit (.bool true)], args := [d1, d2] }
  | _ => none }
def fnRepairsRow : OpenClaim := { program := "ytniifpfhfpcmcaa", sum := "12d320ce0efa9f480c3651a60bcef0804a41b4d307b2ae6a731192232cc1a39f", func := "loop.example/g01064/laws.FnRepairs", spec := "fnRepairs", recurses := true, apart := false }
def FnRepairsSaid : Prop := fnRepairsRow.holds Try.pinned (OpenSpec.ofChange fnRepairsSpec)

/-- ITS FALSE NEIGHBOUR: 'it returns false'. Refute it at one input. -/
def fnRepairsWrong : ChangeSpec := { name := "fnRepairs", fn := fun _ => fun
  | [d1, d2] => { results := [.lit (.bool false)], args := [d1, d2] }
  | _ => none }
def FnRepairsWrongFalsely : Prop := fnRepairsRow.holds Try.pinned (OpenSpec.ofChange fnRepairsWrong)

/-- 'laws.FnBrokenParts': WHATEVER THE INPUT: true; the input reads as it did. -/
def fnBrokenPartsSpec : ChangeSpec := { name := "fnBrokenParts", fn := fun _ => fun
  | [d1, d2] => { results := [.lit (.bool true)], args := [d1, d2] }
  | _ => none }
def fnBrokenPartsRow : OpenClaim := { program := "ytniifpfhfpcmcaa", sum := "12d320ce0efa9f480c3651a60bcef0804a41b4d307b2ae6a731192232cc1a39f", func := "loop.example/g01064/laws.FnBrokenParts", spec := "fnBrokenParts", inPlace := ["slices.overlaps[int64]"], recurses := true, apart := false }
def FnBrokenPartsSaid : Prop := fnBrokenPartsRow.holds Try.pinned (OpenSpec.ofChange fnBrokenPartsSpec)

/-- ITS FALSE NEIGHBOUR: 'it returns false'. Refute it at one input. -/
def fnBrokenPartsWrong : ChangeSpec := { name := "fnBrokenParts", fn := fun _ => fun
  | [d1, d2] => { results := [.lit (.bool false)], args := [d1, d2] }
  | _ => none }
def FnBrokenPartsWrongFalsely : Prop := fnBrokenPartsRow.holds Try.pinned (OpenSpec.ofChange fnBrokenPartsWrong)

/-- 'laws.FnExactUncoveredBy': WHATEVER THE INPUT: true; the input reads as it did. -/
def fnExactUncoveredBySpec : ChangeSpec := { name := "fnExactUncoveredBy", fn := fun _ => fun
  | [d1, d2, d3] => { results := [.lit (.bool true)], args := [d1, d2, d3] }
  | _ => none }
def fnExactUncoveredByRow : OpenClaim := { program := "ytniifpfhfpcmcaa", sum := "12d320ce0efa9f480c3651a60bcef0804a41b4d307b2ae6a731192232cc1a39f", func := "loop.example/g01064/laws.FnExactUncoveredBy", spec := "fnExactUncoveredBy", apart := false }
def FnExactUncoveredBySaid : Prop := fnExactUncoveredByRow.holds Try.pinned (OpenSpec.ofChange fnExactUncoveredBySpec)

/-- ITS FALSE NEIGHBOUR: 'it returns false'. Refute it at one input. -/
def fnExactUncoveredByWrong : ChangeSpec := { name := "fnExactUncoveredBy", fn := fun _ => fun
  | [d1, d2, d3] => { results := [.lit (.bool false)], args := [d1, d2, d3] }
  | _ => none }
def FnExactUncoveredByWrongFalsely : Prop := fnExactUncoveredByRow.holds Try.pinned (OpenSpec.ofChange fnExactUncoveredByWrong)

/-- 'laws.FnExactLongestBroken': WHATEVER THE INPUT: true; the input reads as it did. -/
def fnExactLongestBrokenSpec : ChangeSpec := { name := "fnExactLongestBroken", fn := fun _ => fun
  | [d1, d2] => { results := [.lit (.bool true)], args := [d1, d2] }
  | _ => none }
def fnExactLongestBrokenRow : OpenClaim := { program := "ytniifpfhfpcmcaa", sum := "12d320ce0efa9f480c3651a60bcef0804a41b4d307b2ae6a731192232cc1a39f", func := "loop.example/g01064/laws.FnExactLongestBroken", spec := "fnExactLongestBroken", apart := false }
def FnExactLongestBrokenSaid : Prop := fnExactLongestBrokenRow.holds Try.pinned (OpenSpec.ofChange fnExactLongestBrokenSpec)

/-- ITS FALSE NEIGHBOUR: 'it returns false'. Refute it at one input. -/
def fnExactLongestBrokenWrong : ChangeSpec := { name := "fnExactLongestBroken", fn := fun _ => fun
  | [d1, d2] => { results := [.lit (.bool false)], args := [d1, d2] }
  | _ => none }
def FnExactLongestBrokenWrongFalsely : Prop := fnExactLongestBrokenRow.holds Try.pinned (OpenSpec.ofChange fnExactLongestBrokenWrong)

/-- 'laws.FnExactPartsOfBroken': WHATEVER THE INPUT: true; the input reads as it did. -/
def fnExactPartsOfBrokenSpec : ChangeSpec := { name := "fnExactPartsOfBroken", fn := fun _ => fun
  | [d1, d2] => { results := [.lit (.bool true)], args := [d1, d2] }
  | _ => none }
def fnExactPartsOfBrokenRow : OpenClaim := { program := "ytniifpfhfpcmcaa", sum := "12d320ce0efa9f480c3651a60bcef0804a41b4d307b2ae6a731192232cc1a39f", func := "loop.example/g01064/laws.FnExactPartsOfBroken", spec := "fnExactPartsOfBroken", apart := false }
def FnExactPartsOfBrokenSaid : Prop := fnExactPartsOfBrokenRow.holds Try.pinned (OpenSpec.ofChange fnExactPartsOfBrokenSpec)

/-- ITS FALSE NEIGHBOUR: 'it returns false'. Refute it at one input. -/
def fnExactPartsOfBrokenWrong : ChangeSpec := { name := "fnExactPartsOfBroken", fn := fun _ => fun
  | [d1, d2] => { results := [.lit (.bool false)], args := [d1, d2] }
  | _ => none }
def FnExactPartsOfBrokenWrongFalsely : Prop := fnExactPartsOfBrokenRow.holds Try.pinned (OpenSpec.ofChange fnExactPartsOfBrokenWrong)

/-- 'laws.FnExactBreakStake': WHATEVER THE INPUT: true; the input reads as it did. -/
def fnExactBreakStakeSpec : ChangeSpec := { name := "fnExactBreakStake", fn := fun _ => fun
  | [d1, d2, d3] => { results := [.lit (.bool true)], args := [d1, d2, d3] }
  | _ => none }
def fnExactBreakStakeRow : OpenClaim := { program := "ytniifpfhfpcmcaa", sum := "12d320ce0efa9f480c3651a60bcef0804a41b4d307b2ae6a731192232cc1a39f", func := "loop.example/g01064/laws.FnExactBreakStake", spec := "fnExactBreakStake", inPlace := ["slices.overlaps[int64]"], apart := false }
def FnExactBreakStakeSaid : Prop := fnExactBreakStakeRow.holds Try.pinned (OpenSpec.ofChange fnExactBreakStakeSpec)

/-- ITS FALSE NEIGHBOUR: 'it returns false'. Refute it at one input. -/
def fnExactBreakStakeWrong : ChangeSpec := { name := "fnExactBreakStake", fn := fun _ => fun
  | [d1, d2, d3] => { results := [.lit (.bool false)], args := [d1, d2, d3] }
  | _ => none }
def FnExactBreakStakeWrongFalsely : Prop := fnExactBreakStakeRow.holds Try.pinned (OpenSpec.ofChange fnExactBreakStakeWrong)

/-- 'laws.FnExactWorthMending': WHATEVER THE INPUT: true; the input reads as it did. -/
def fnExactWorthMendingSpec : ChangeSpec := { name := "fnExactWorthMending", fn := fun _ => fun
  | [d1, d2, d3, d4] => { results := [.lit (.bool true)], args := [d1, d2, d3, d4] }
  | _ => none }
def fnExactWorthMendingRow : OpenClaim := { program := "ytniifpfhfpcmcaa", sum := "12d320ce0efa9f480c3651a60bcef0804a41b4d307b2ae6a731192232cc1a39f", func := "loop.example/g01064/laws.FnExactWorthMending", spec := "fnExactWorthMending", recurses := true, apart := false }
def FnExactWorthMendingSaid : Prop := fnExactWorthMendingRow.holds Try.pinned (OpenSpec.ofChange fnExactWorthMendingSpec)

/-- ITS FALSE NEIGHBOUR: 'it returns false'. Refute it at one input. -/
def fnExactWorthMendingWrong : ChangeSpec := { name := "fnExactWorthMending", fn := fun _ => fun
  | [d1, d2, d3, d4] => { results := [.lit (.bool false)], args := [d1, d2, d3, d4] }
  | _ => none }
def FnExactWorthMendingWrongFalsely : Prop := fnExactWorthMendingRow.holds Try.pinned (OpenSpec.ofChange fnExactWorthMendingWrong)

/-- 'laws.FnExactFewestNew': WHATEVER THE INPUT: true; the input reads as it did. -/
def fnExactFewestNewSpec : ChangeSpec := { name := "fnExactFewestNew", fn := fun _ => fun
  | [d1, d2] => { results := [.lit (.bool true)], args := [d1, d2] }
  | _ => none }
def fnExactFewestNewRow : OpenClaim := { program := "ytniifpfhfpcmcaa", sum := "12d320ce0efa9f480c3651a60bcef0804a41b4d307b2ae6a731192232cc1a39f", func := "loop.example/g01064/laws.FnExactFewestNew", spec := "fnExactFewestNew", recurses := true, apart := false }
def FnExactFewestNewSaid : Prop := fnExactFewestNewRow.holds Try.pinned (OpenSpec.ofChange fnExactFewestNewSpec)

/-- ITS FALSE NEIGHBOUR: 'it returns false'. Refute it at one input. -/
def fnExactFewestNewWrong : ChangeSpec := { name := "fnExactFewestNew", fn := fun _ => fun
  | [d1, d2] => { results := [.lit (.bool false)], args := [d1, d2] }
  | _ => none }
def FnExactFewestNewWrongFalsely : Prop := fnExactFewestNewRow.holds Try.pinned (OpenSpec.ofChange fnExactFewestNewWrong)

/-- 'laws.FnExactMostBroken': WHATEVER THE INPUT: true; the input reads as it did. -/
def fnExactMostBrokenSpec : ChangeSpec := { name := "fnExactMostBroken", fn := fun _ => fun
  | [d1, d2, d3] => { results := [.lit (.bool true)], args := [d1, d2, d3] }
  | _ => none }
def fnExactMostBrokenRow : OpenClaim := { program := "ytniifpfhfpcmcaa", sum := "12d320ce0efa9f480c3651a60bcef0804a41b4d307b2ae6a731192232cc1a39f", func := "loop.example/g01064/laws.FnExactMostBroken", spec := "fnExactMostBroken", recurses := true, apart := false }
def FnExactMostBrokenSaid : Prop := fnExactMostBrokenRow.holds Try.pinned (OpenSpec.ofChange fnExactMostBrokenSpec)

/-- ITS FALSE NEIGHBOUR: 'it returns false'. Refute it at one input. -/
def fnExactMostBrokenWrong : ChangeSpec := { name := "fnExactMostBroken", fn := fun _ => fun
  | [d1, d2, d3] => { results := [.lit (.bool false)], args := [d1, d2, d3] }
  | _ => none }
def FnExactMostBrokenWrongFalsely : Prop := fnExactMostBrokenRow.holds Try.pinned (OpenSpec.ofChange fnExactMostBrokenWrong)

/- THE SECOND FORM. 'bulk': how many values and letters a reading holds, each counted each time it is reached (what is shared counts as often as it is met; a slice's spare places count too). A statement '..UptoSaid' is the law's where the arguments, and the package variables that the reading takes, are together of bulk at most 1048576: NARROWER than '..Said'. Prove '..Said' where nothing that the law and all that it calls make is longer than what came in: it says more and counts as full. Else prove '..UptoSaid'. A law counts once. -/
mutual
def uptoBulk {H : Type} : DataW H → Nat
  | .lit (.string bytes) => bytes.length + 1
  | .lit _ => 1
  | .nil => 1
  | .ptr d => uptoBulk d + 1
  | .slice elems spare => uptoBulkAll elems + uptoBulkAll spare + 1
  | .agg parts => uptoBulkAll parts + 1
  | .iface _ d => uptoBulk d + 1
  | .map entries => uptoBulkEntries entries + 1
  | .held _ => 1
def uptoBulkAll {H : Type} : List (DataW H) → Nat
  | [] => 0
  | d :: r => uptoBulk d + uptoBulkAll r
def uptoBulkEntries {H : Type} : List (Lit × DataW H) → Nat
  | [] => 0
  | x :: r => uptoBulkEntry x + uptoBulkEntries r
def uptoBulkEntry {H : Type} : Lit × DataW H → Nat
  | (.string bytes, d) => bytes.length + uptoBulk d + 1
  | (_, d) => uptoBulk d + 1
 end
def uptoSmall : (H : Type) → List (DataW H) → Bool := fun _ ds => decide (uptoBulkAll ds ≤ 1048576)
def OpenSpec.upto (s : _root_.Go.ChangeSpec) : _root_.Go.OpenSpec := { _root_.Go.OpenSpec.ofChange s with cond := some uptoSmall }

/-- 'laws.FnExactValidBroken', WHERE WHAT IT READS IS OF BULK AT MOST 1048576: true; the input reads as it did. -/
def fnExactValidBrokenUptoRow : OpenClaim := { program := "ytniifpfhfpcmcaa", sum := "12d320ce0efa9f480c3651a60bcef0804a41b4d307b2ae6a731192232cc1a39f", func := "loop.example/g01064/laws.FnExactValidBroken", spec := "fnExactValidBroken", apart := false, narrowed := true }
def FnExactValidBrokenUptoSaid : Prop := fnExactValidBrokenUptoRow.holds Try.pinned (OpenSpec.upto fnExactValidBrokenSpec)

/-- 'laws.FnRepairs', WHERE WHAT IT READS IS OF BULK AT MOST 1048576: true; the input reads as it did. -/
def fnRepairsUptoRow : OpenClaim := { program := "ytniifpfhfpcmcaa", sum := "12d320ce0efa9f480c3651a60bcef0804a41b4d307b2ae6a731192232cc1a39f", func := "loop.example/g01064/laws.FnRepairs", spec := "fnRepairs", recurses := true, apart := false, narrowed := true }
def FnRepairsUptoSaid : Prop := fnRepairsUptoRow.holds Try.pinned (OpenSpec.upto fnRepairsSpec)

/-- 'laws.FnBrokenParts', WHERE WHAT IT READS IS OF BULK AT MOST 1048576: true; the input reads as it did. -/
def fnBrokenPartsUptoRow : OpenClaim := { program := "ytniifpfhfpcmcaa", sum := "12d320ce0efa9f480c3651a60bcef0804a41b4d307b2ae6a731192232cc1a39f", func := "loop.example/g01064/laws.FnBrokenParts", spec := "fnBrokenParts", inPlace := ["slices.overlaps[int64]"], recurses := true, apart := false, narrowed := true }
def FnBrokenPartsUptoSaid : Prop := fnBrokenPartsUptoRow.holds Try.pinned (OpenSpec.upto fnBrokenPartsSpec)

/-- 'laws.FnExactUncoveredBy', WHERE WHAT IT READS IS OF BULK AT MOST 1048576: true; the input reads as it did. -/
def fnExactUncoveredByUptoRow : OpenClaim := { program := "ytniifpfhfpcmcaa", sum := "12d320ce0efa9f480c3651a60bcef0804a41b4d307b2ae6a731192232cc1a39f", func := "loop.example/g01064/laws.FnExactUncoveredBy", spec := "fnExactUncoveredBy", apart := false, narrowed := true }
def FnExactUncoveredByUptoSaid : Prop := fnExactUncoveredByUptoRow.holds Try.pinned (OpenSpec.upto fnExactUncoveredBySpec)

/-- 'laws.FnExactLongestBroken', WHERE WHAT IT READS IS OF BULK AT MOST 1048576: true; the input reads as it did. -/
def fnExactLongestBrokenUptoRow : OpenClaim := { program := "ytniifpfhfpcmcaa", sum := "12d320ce0efa9f480c3651a60bcef0804a41b4d307b2ae6a731192232cc1a39f", func := "loop.example/g01064/laws.FnExactLongestBroken", spec := "fnExactLongestBroken", apart := false, narrowed := true }
def FnExactLongestBrokenUptoSaid : Prop := fnExactLongestBrokenUptoRow.holds Try.pinned (OpenSpec.upto fnExactLongestBrokenSpec)

/-- 'laws.FnExactPartsOfBroken', WHERE WHAT IT READS IS OF BULK AT MOST 1048576: true; the input reads as it did. -/
def fnExactPartsOfBrokenUptoRow : OpenClaim := { program := "ytniifpfhfpcmcaa", sum := "12d320ce0efa9f480c3651a60bcef0804a41b4d307b2ae6a731192232cc1a39f", func := "loop.example/g01064/laws.FnExactPartsOfBroken", spec := "fnExactPartsOfBroken", apart := false, narrowed := true }
def FnExactPartsOfBrokenUptoSaid : Prop := fnExactPartsOfBrokenUptoRow.holds Try.pinned (OpenSpec.upto fnExactPartsOfBrokenSpec)

/-- 'laws.FnExactBreakStake', WHERE WHAT IT READS IS OF BULK AT MOST 1048576: true; the input reads as it did. -/
def fnExactBreakStakeUptoRow : OpenClaim := { program := "ytniifpfhfpcmcaa", sum := "12d320ce0efa9f480c3651a60bcef0804a41b4d307b2ae6a731192232cc1a39f", func := "loop.example/g01064/laws.FnExactBreakStake", spec := "fnExactBreakStake", inPlace := ["slices.overlaps[int64]"], apart := false, narrowed := true }
def FnExactBreakStakeUptoSaid : Prop := fnExactBreakStakeUptoRow.holds Try.pinned (OpenSpec.upto fnExactBreakStakeSpec)

/-- 'laws.FnExactWorthMending', WHERE WHAT IT READS IS OF BULK AT MOST 1048576: true; the input reads as it did. -/
def fnExactWorthMendingUptoRow : OpenClaim := { program := "ytniifpfhfpcmcaa", sum := "12d320ce0efa9f480c3651a60bcef0804a41b4d307b2ae6a731192232cc1a39f", func := "loop.example/g01064/laws.FnExactWorthMending", spec := "fnExactWorthMending", recurses := true, apart := false, narrowed := true }
def FnExactWorthMendingUptoSaid : Prop := fnExactWorthMendingUptoRow.holds Try.pinned (OpenSpec.upto fnExactWorthMendingSpec)

/-- 'laws.FnExactFewestNew', WHERE WHAT IT READS IS OF BULK AT MOST 1048576: true; the input reads as it did. -/
def fnExactFewestNewUptoRow : OpenClaim := { program := "ytniifpfhfpcmcaa", sum := "12d320ce0efa9f480c3651a60bcef0804a41b4d307b2ae6a731192232cc1a39f", func := "loop.example/g01064/laws.FnExactFewestNew", spec := "fnExactFewestNew", recurses := true, apart := false, narrowed := true }
def FnExactFewestNewUptoSaid : Prop := fnExactFewestNewUptoRow.holds Try.pinned (OpenSpec.upto fnExactFewestNewSpec)

/-- 'laws.FnExactMostBroken', WHERE WHAT IT READS IS OF BULK AT MOST 1048576: true; the input reads as it did. -/
def fnExactMostBrokenUptoRow : OpenClaim := { program := "ytniifpfhfpcmcaa", sum := "12d320ce0efa9f480c3651a60bcef0804a41b4d307b2ae6a731192232cc1a39f", func := "loop.example/g01064/laws.FnExactMostBroken", spec := "fnExactMostBroken", recurses := true, apart := false, narrowed := true }
def FnExactMostBrokenUptoSaid : Prop := fnExactMostBrokenUptoRow.holds Try.pinned (OpenSpec.upto fnExactMostBrokenSpec)

end Rows
end Go.Proofs.Ytniifpfhfpcmcaa
