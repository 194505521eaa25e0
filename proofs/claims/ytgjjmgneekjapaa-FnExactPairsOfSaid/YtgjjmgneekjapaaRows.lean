/-
  No cell of these rows narrows 'for every input' (looked for: loops, veiled, ifaces, maps, wideKeys, modest, calm, conditions, laid).
  DERIVED. THE GIVEN ROWS OF THIS SEAT. 10 by the template 'for every input the law returns true; each argument reads behind the call as it read before'; 0 by the template 'total and deterministic' (their statements: YtgjjmgneekjapaaTotals.lean).
  GIVEN WITH THE SEED: the statements are not yours to turn. If you find one false, say at which input.
  Laid BY PROGRAM, IN A SANDBOX (cutbox-rows.mjs): the forced cells as the released guide's own fill.sh prints them over the translation 3c6a1de8338c2b4f… (all of the seat's roots in one cut). By AI agents, Wed Nov 11 2026. No macro, syntax, notation, axiom, sorry.
-/
import Derived.Test.YtgjjmgneekjapaaChecked
import GoSem.Claim
import GoSem.ClaimJoined
import GoSem.ClaimMapViews
import Derived.JoinedTies
import Derived.KernelRfl
namespace Go.Proofs.Ytgjjmgneekjapaa
/- THE CELL 'sum', in the pinned program and in every row, IS THE sha256 OF THE DUMP (.gsa) THAT YtgjjmgneekjapaaProg.lean LOADS. Nothing in Lean hashes anything: it is a label: what it is worth is what the hold of that sum in a sandbox is worth. -/
noncomputable def Try.pinned : Pinned := { name := "ytgjjmgneekjapaa", sum := "3c6a1de8338c2b4f4b728798a49060c5e781a8ba6a884404eed5cd82c201d81c", checked := Try.checked }
namespace Rows
def none {H : Type} : Left H := { results := [], args := [] }

/-- 'laws.FnExactValidSeat': WHATEVER THE INPUT: true; the input reads as it did. -/
def fnExactValidSeatSpec : ChangeSpec := { name := "fnExactValidSeat", fn := fun _ => fun
  | [d] => { results := [.lit (.bool true)], args := [d] }
  | _ => none }
def fnExactValidSeatRow : OpenClaim := { program := "ytgjjmgneekjapaa", sum := "3c6a1de8338c2b4f4b728798a49060c5e781a8ba6a884404eed5cd82c201d81c", func := "loop.example/g01064/laws.FnExactValidSeat", spec := "fnExactValidSeat", apart := false }
def FnExactValidSeatSaid : Prop := fnExactValidSeatRow.holds Try.pinned (OpenSpec.ofChange fnExactValidSeatSpec)

/-- ITS FALSE NEIGHBOUR: 'it returns false'. Refute it at one input. -/
def fnExactValidSeatWrong : ChangeSpec := { name := "fnExactValidSeat", fn := fun _ => fun
  | [d] => { results := [.lit (.bool false)], args := [d] }
  | _ => none }
def FnExactValidSeatWrongFalsely : Prop := fnExactValidSeatRow.holds Try.pinned (OpenSpec.ofChange fnExactValidSeatWrong)

/-- 'laws.FnExactHolesOf': WHATEVER THE INPUT: true; the input reads as it did. -/
def fnExactHolesOfSpec : ChangeSpec := { name := "fnExactHolesOf", fn := fun _ => fun
  | [d] => { results := [.lit (.bool true)], args := [d] }
  | _ => none }
def fnExactHolesOfRow : OpenClaim := { program := "ytgjjmgneekjapaa", sum := "3c6a1de8338c2b4f4b728798a49060c5e781a8ba6a884404eed5cd82c201d81c", func := "loop.example/g01064/laws.FnExactHolesOf", spec := "fnExactHolesOf", apart := false }
def FnExactHolesOfSaid : Prop := fnExactHolesOfRow.holds Try.pinned (OpenSpec.ofChange fnExactHolesOfSpec)

/-- ITS FALSE NEIGHBOUR: 'it returns false'. Refute it at one input. -/
def fnExactHolesOfWrong : ChangeSpec := { name := "fnExactHolesOf", fn := fun _ => fun
  | [d] => { results := [.lit (.bool false)], args := [d] }
  | _ => none }
def FnExactHolesOfWrongFalsely : Prop := fnExactHolesOfRow.holds Try.pinned (OpenSpec.ofChange fnExactHolesOfWrong)

/-- 'laws.FnExactTensionAfter': WHATEVER THE INPUT: true; the input reads as it did. -/
def fnExactTensionAfterSpec : ChangeSpec := { name := "fnExactTensionAfter", fn := fun _ => fun
  | [d1, d2, d3] => { results := [.lit (.bool true)], args := [d1, d2, d3] }
  | _ => none }
def fnExactTensionAfterRow : OpenClaim := { program := "ytgjjmgneekjapaa", sum := "3c6a1de8338c2b4f4b728798a49060c5e781a8ba6a884404eed5cd82c201d81c", func := "loop.example/g01064/laws.FnExactTensionAfter", spec := "fnExactTensionAfter", apart := false }
def FnExactTensionAfterSaid : Prop := fnExactTensionAfterRow.holds Try.pinned (OpenSpec.ofChange fnExactTensionAfterSpec)

/-- ITS FALSE NEIGHBOUR: 'it returns false'. Refute it at one input. -/
def fnExactTensionAfterWrong : ChangeSpec := { name := "fnExactTensionAfter", fn := fun _ => fun
  | [d1, d2, d3] => { results := [.lit (.bool false)], args := [d1, d2, d3] }
  | _ => none }
def FnExactTensionAfterWrongFalsely : Prop := fnExactTensionAfterRow.holds Try.pinned (OpenSpec.ofChange fnExactTensionAfterWrong)

/-- 'laws.FnExactLeastTension': WHATEVER THE INPUT: true; the input reads as it did. -/
def fnExactLeastTensionSpec : ChangeSpec := { name := "fnExactLeastTension", fn := fun _ => fun
  | [d1, d2, d3] => { results := [.lit (.bool true)], args := [d1, d2, d3] }
  | _ => none }
def fnExactLeastTensionRow : OpenClaim := { program := "ytgjjmgneekjapaa", sum := "3c6a1de8338c2b4f4b728798a49060c5e781a8ba6a884404eed5cd82c201d81c", func := "loop.example/g01064/laws.FnExactLeastTension", spec := "fnExactLeastTension", apart := false }
def FnExactLeastTensionSaid : Prop := fnExactLeastTensionRow.holds Try.pinned (OpenSpec.ofChange fnExactLeastTensionSpec)

/-- ITS FALSE NEIGHBOUR: 'it returns false'. Refute it at one input. -/
def fnExactLeastTensionWrong : ChangeSpec := { name := "fnExactLeastTension", fn := fun _ => fun
  | [d1, d2, d3] => { results := [.lit (.bool false)], args := [d1, d2, d3] }
  | _ => none }
def FnExactLeastTensionWrongFalsely : Prop := fnExactLeastTensionRow.holds Try.pinned (OpenSpec.ofChange fnExactLeastTensionWrong)

/-- 'laws.FnExactCaneFor': WHATEVER THE INPUT: true; the input reads as it did. -/
def fnExactCaneForSpec : ChangeSpec := { name := "fnExactCaneFor", fn := fun _ => fun
  | [d1, d2] => { results := [.lit (.bool true)], args := [d1, d2] }
  | _ => none }
def fnExactCaneForRow : OpenClaim := { program := "ytgjjmgneekjapaa", sum := "3c6a1de8338c2b4f4b728798a49060c5e781a8ba6a884404eed5cd82c201d81c", func := "loop.example/g01064/laws.FnExactCaneFor", spec := "fnExactCaneFor", apart := false }
def FnExactCaneForSaid : Prop := fnExactCaneForRow.holds Try.pinned (OpenSpec.ofChange fnExactCaneForSpec)

/-- ITS FALSE NEIGHBOUR: 'it returns false'. Refute it at one input. -/
def fnExactCaneForWrong : ChangeSpec := { name := "fnExactCaneFor", fn := fun _ => fun
  | [d1, d2] => { results := [.lit (.bool false)], args := [d1, d2] }
  | _ => none }
def FnExactCaneForWrongFalsely : Prop := fnExactCaneForRow.holds Try.pinned (OpenSpec.ofChange fnExactCaneForWrong)

/-- 'laws.FnExactStrandsOf': WHATEVER THE INPUT: true; the input reads as it did. -/
def fnExactStrandsOfSpec : ChangeSpec := { name := "fnExactStrandsOf", fn := fun _ => fun
  | [d1, d2] => { results := [.lit (.bool true)], args := [d1, d2] }
  | _ => none }
def fnExactStrandsOfRow : OpenClaim := { program := "ytgjjmgneekjapaa", sum := "3c6a1de8338c2b4f4b728798a49060c5e781a8ba6a884404eed5cd82c201d81c", func := "loop.example/g01064/laws.FnExactStrandsOf", spec := "fnExactStrandsOf", apart := false }
def FnExactStrandsOfSaid : Prop := fnExactStrandsOfRow.holds Try.pinned (OpenSpec.ofChange fnExactStrandsOfSpec)

/-- ITS FALSE NEIGHBOUR: 'it returns false'. Refute it at one input. -/
def fnExactStrandsOfWrong : ChangeSpec := { name := "fnExactStrandsOf", fn := fun _ => fun
  | [d1, d2] => { results := [.lit (.bool false)], args := [d1, d2] }
  | _ => none }
def FnExactStrandsOfWrongFalsely : Prop := fnExactStrandsOfRow.holds Try.pinned (OpenSpec.ofChange fnExactStrandsOfWrong)

/-- 'laws.FnExactStrandsAt': WHATEVER THE INPUT: true; the input reads as it did. -/
def fnExactStrandsAtSpec : ChangeSpec := { name := "fnExactStrandsAt", fn := fun _ => fun
  | [d1, d2] => { results := [.lit (.bool true)], args := [d1, d2] }
  | _ => none }
def fnExactStrandsAtRow : OpenClaim := { program := "ytgjjmgneekjapaa", sum := "3c6a1de8338c2b4f4b728798a49060c5e781a8ba6a884404eed5cd82c201d81c", func := "loop.example/g01064/laws.FnExactStrandsAt", spec := "fnExactStrandsAt", apart := false }
def FnExactStrandsAtSaid : Prop := fnExactStrandsAtRow.holds Try.pinned (OpenSpec.ofChange fnExactStrandsAtSpec)

/-- ITS FALSE NEIGHBOUR: 'it returns false'. Refute it at one input. -/
def fnExactStrandsAtWrong : ChangeSpec := { name := "fnExactStrandsAt", fn := fun _ => fun
  | [d1, d2] => { results := [.lit (.bool false)], args := [d1, d2] }
  | _ => none }
def FnExactStrandsAtWrongFalsely : Prop := fnExactStrandsAtRow.holds Try.pinned (OpenSpec.ofChange fnExactStrandsAtWrong)

/-- 'laws.FnExactBrokenStrands': WHATEVER THE INPUT: true; the input reads as it did. -/
def fnExactBrokenStrandsSpec : ChangeSpec := { name := "fnExactBrokenStrands", fn := fun _ => fun
  | [d1, d2] => { results := [.lit (.bool true)], args := [d1, d2] }
  | _ => none }
def fnExactBrokenStrandsRow : OpenClaim := { program := "ytgjjmgneekjapaa", sum := "3c6a1de8338c2b4f4b728798a49060c5e781a8ba6a884404eed5cd82c201d81c", func := "loop.example/g01064/laws.FnExactBrokenStrands", spec := "fnExactBrokenStrands", apart := false }
def FnExactBrokenStrandsSaid : Prop := fnExactBrokenStrandsRow.holds Try.pinned (OpenSpec.ofChange fnExactBrokenStrandsSpec)

/-- ITS FALSE NEIGHBOUR: 'it returns false'. Refute it at one input. -/
def fnExactBrokenStrandsWrong : ChangeSpec := { name := "fnExactBrokenStrands", fn := fun _ => fun
  | [d1, d2] => { results := [.lit (.bool false)], args := [d1, d2] }
  | _ => none }
def FnExactBrokenStrandsWrongFalsely : Prop := fnExactBrokenStrandsRow.holds Try.pinned (OpenSpec.ofChange fnExactBrokenStrandsWrong)

/-- 'laws.FnExactPairsOf': WHATEVER THE INPUT: true; the input reads as it did. -/
def fnExactPairsOfSpec : ChangeSpec := { name := "fnExactPairsOf", fn := fun _ => fun
  | [d1, d2] => { results := [.lit (.bool true)], args := [d1, d2] }
  | _ => none }
def fnExactPairsOfRow : OpenClaim := { program := "ytgjjmgneekjapaa", sum := "3c6a1de8338c2b4f4b728798a49060c5e781a8ba6a884404eed5cd82c201d81c", func := "loop.example/g01064/laws.FnExactPairsOf", spec := "fnExactPairsOf", apart := false }
def FnExactPairsOfSaid : Prop := fnExactPairsOfRow.holds Try.pinned (OpenSpec.ofChange fnExactPairsOfSpec)

/-- ITS FALSE NEIGHBOUR: 'it returns false'. Refute it at one input. -/
def fnExactPairsOfWrong : ChangeSpec := { name := "fnExactPairsOf", fn := fun _ => fun
  | [d1, d2] => { results := [.lit (.bool false)], args := [d1, d2] }
  | _ => none }
def FnExactPairsOfWrongFalsely : Prop := fnExactPairsOfRow.holds Try.pinned (OpenSpec.ofChange fnExactPairsOfWrong)

/-- 'laws.FnTensions': WHATEVER THE INPUT: true; the input reads as it did. -/
def fnTensionsSpec : ChangeSpec := { name := "fnTensions", fn := fun _ => fun
  | [d] => { results := [.lit (.bool true)], args := [d] }
  | _ => none }
def fnTensionsRow : OpenClaim := { program := "ytgjjmgneekjapaa", sum := "3c6a1de8338c2b4f4b728798a49060c5e781a8ba6a884404eed5cd82c201d81c", func := "loop.example/g01064/laws.FnTensions", spec := "fnTensions", apart := false }
def FnTensionsSaid : Prop := fnTensionsRow.holds Try.pinned (OpenSpec.ofChange fnTensionsSpec)

/-- ITS FALSE NEIGHBOUR: 'it returns false'. Refute it at one input. -/
def fnTensionsWrong : ChangeSpec := { name := "fnTensions", fn := fun _ => fun
  | [d] => { results := [.lit (.bool false)], args := [d] }
  | _ => none }
def FnTensionsWrongFalsely : Prop := fnTensionsRow.holds Try.pinned (OpenSpec.ofChange fnTensionsWrong)

/- THE SECOND FORM. 'bulk': how many values and letters a reading holds, each counted each time it is reached (what is shared counts as often as it is met; a slice's spare places count too). A statement '..UptoSaid' is the law's where the arguments, and the package variables that the reading takes, are together of bulk at most 1048576: NARROWER than '..Said'. Prove '..Said' where nothing that the law and all that it calls make is longer than what came in: it says more and counts as full. Else prove '..UptoSaid'. A law counts once. -/
mutual
def uptoBulk {H : Type} : DataW H → Nat
  | .lit (.string bytes) => bytes.length + 1
  | .lit _ => 1
  | .nil => 1
  | .ptr d => uptoBulk d + 1
  | .slice elems spare => uptoBulkAll elems + uptoBulkAll spare + 1
  | .agg parts => uptoBulkAll parts + 1
  | .iface _ d => uptoBulk d + 1
  | .map entries => uptoBulkEntries entries + 1
  | .held _ => 1
def uptoBulkAll {H : Type} : List (DataW H) → Nat
  | [] => 0
  | d :: r => uptoBulk d + uptoBulkAll r
def uptoBulkEntries {H : Type} : List (Lit × DataW H) → Nat
  | [] => 0
  | x :: r => uptoBulkEntry x + uptoBulkEntries r
def uptoBulkEntry {H : Type} : Lit × DataW H → Nat
  | (.string bytes, d) => bytes.length + uptoBulk d + 1
  | (_, d) => uptoBulk d + 1
 end
def uptoSmall : (H : Type) → List (DataW H) → Bool := fun _ ds => decide (uptoBulkAll ds ≤ 1048576)
def OpenSpec.upto (s : _root_.Go.ChangeSpec) : _root_.Go.OpenSpec := { _root_.Go.OpenSpec.ofChange s with cond := some uptoSmall }

/-- 'laws.FnExactValidSeat', WHERE WHAT IT READS IS OF BULK AT MOST 1048576: true; the input reads as it did. -/
def fnExactValidSeatUptoRow : OpenClaim := { program := "ytgjjmgneekjapaa", sum := "3c6a1de8338c2b4f4b728798a49060c5e781a8ba6a884404eed5cd82c201d81c", func := "loop.example/g01064/laws.FnExactValidSeat", spec := "fnExactValidSeat", apart := false, narrowed := true }
def FnExactValidSeatUptoSaid : Prop := fnExactValidSeatUptoRow.holds Try.pinned (OpenSpec.upto fnExactValidSeatSpec)

/-- 'laws.FnExactHolesOf', WHERE WHAT IT READS IS OF BULK AT MOST 1048576: true; the input reads as it did. -/
def fnExactHolesOfUptoRow : OpenClaim := { program := "ytgjjmgneekjapaa", sum := "3c6a1de8338c2b4f4b728798a49060c5e781a8ba6a884404eed5cd82c201d81c", func := "loop.example/g01064/laws.FnExactHolesOf", spec := "fnExactHolesOf", apart := false, narrowed := true }
def FnExactHolesOfUptoSaid : Prop := fnExactHolesOfUptoRow.holds Try.pinned (OpenSpec.upto fnExactHolesOfSpec)

/-- 'laws.FnExactTensionAfter', WHERE WHAT IT READS IS OF BULK AT MOST 1048576: true; the input reads as it did. -/
def fnExactTensionAfterUptoRow : OpenClaim := { program := "ytgjjmgneekjapaa", sum := "3c6a1de8338c2b4f4b728798a49060c5e781a8ba6a884404eed5cd82c201d81c", func := "loop.example/g01064/laws.FnExactTensionAfter", spec := "fnExactTensionAfter", apart := false, narrowed := true }
def FnExactTensionAfterUptoSaid : Prop := fnExactTensionAfterUptoRow.holds Try.pinned (OpenSpec.upto fnExactTensionAfterSpec)

/-- 'laws.FnExactLeastTension', WHERE WHAT IT READS IS OF BULK AT MOST 1048576: true; the input reads as it did. -/
def fnExactLeastTensionUptoRow : OpenClaim := { program := "ytgjjmgneekjapaa", sum := "3c6a1de8338c2b4f4b728798a49060c5e781a8ba6a884404eed5cd82c201d81c", func := "loop.example/g01064/laws.FnExactLeastTension", spec := "fnExactLeastTension", apart := false, narrowed := true }
def FnExactLeastTensionUptoSaid : Prop := fnExactLeastTensionUptoRow.holds Try.pinned (OpenSpec.upto fnExactLeastTensionSpec)

/-- 'laws.FnExactCaneFor', WHERE WHAT IT READS IS OF BULK AT MOST 1048576: true; the input reads as it did. -/
def fnExactCaneForUptoRow : OpenClaim := { program := "ytgjjmgneekjapaa", sum := "3c6a1de8338c2b4f4b728798a49060c5e781a8ba6a884404eed5cd82c201d81c", func := "loop.example/g01064/laws.FnExactCaneFor", spec := "fnExactCaneFor", apart := false, narrowed := true }
def FnExactCaneForUptoSaid : Prop := fnExactCaneForUptoRow.holds Try.pinned (OpenSpec.upto fnExactCaneForSpec)

/-- 'laws.FnExactStrandsOf', WHERE WHAT IT READS IS OF BULK AT MOST 1048576: true; the input reads as it did. -/
def fnExactStrandsOfUptoRow : OpenClaim := { program := "ytgjjmgneekjapaa", sum := "3c6a1de8338c2b4f4b728798a49060c5e781a8ba6a884404eed5cd82c201d81c", func := "loop.example/g01064/laws.FnExactStrandsOf", spec := "fnExactStrandsOf", apart := false, narrowed := true }
def FnExactStrandsOfUptoSaid : Prop := fnExactStrandsOfUptoRow.holds Try.pinned (OpenSpec.upto fnExactStrandsOfSpec)

/-- 'laws.FnExactStrandsAt', WHERE WHAT IT READS IS OF BULK AT MOST 1048576: true; the input reads as it did. -/
def fnExactStrandsAtUptoRow : OpenClaim := { program := "ytgjjmgneekjapaa", sum := "3c6a1de8338c2b4f4b728798a49060c5e781a8ba6a884404eed5cd82c201d81c", func := "loop.example/g01064/laws.FnExactStrandsAt", spec := "fnExactStrandsAt", apart := false, narrowed := true }
def FnExactStrandsAtUptoSaid : Prop := fnExactStrandsAtUptoRow.holds Try.pinned (OpenSpec.upto fnExactStrandsAtSpec)

/-- 'laws.FnExactBrokenStrands', WHERE WHAT IT READS IS OF BULK AT MOST 1048576: true; the input reads as it did. -/
def fnExactBrokenStrandsUptoRow : OpenClaim := { program := "ytgjjmgneekjapaa", sum := "3c6a1de8338c2b4f4b728798a49060c5e781a8ba6a884404eed5cd82c201d81c", func := "loop.example/g01064/laws.FnExactBrokenStrands", spec := "fnExactBrokenStrands", apart := false, narrowed := true }
def FnExactBrokenStrandsUptoSaid : Prop := fnExactBrokenStrandsUptoRow.holds Try.pinned (OpenSpec.upto fnExactBrokenStrandsSpec)

/-- 'laws.FnExactPairsOf', WHERE WHAT IT READS IS OF BULK AT MOST 1048576: true; the input reads as it did. -/
def fnExactPairsOfUptoRow : OpenClaim := { program := "ytgjjmgneekjapaa", sum := "3c6a1de8338c2b4f4b728798a49060c5e781a8ba6a884404eed5cd82c201d81c", func := "loop.example/g01064/laws.FnExactPairsOf", spec := "fnExactPairsOf", apart := false, narrowed := true }
def FnExactPairsOfUptoSaid : Prop := fnExactPairsOfUptoRow.holds Try.pinned (OpenSpec.upto fnExactPairsOfSpec)

/-- 'laws.FnTensions', WHERE WHAT IT READS IS OF BULK AT MOST 1048576: true; the input reads as it did. -/
def fnTensionsUptoRow : OpenClaim := { program := "ytgjjmgneekjapaa", sum := "3c6a1de8338c2b4f4b728798a49060c5e781a8ba6a884404eed5cd82c201d81c", func := "loop.example/g01064/laws.FnTensions", spec := "fnTensions", apart := false, narrowed := true }
def FnTensionsUptoSaid : Prop := fnTensionsUptoRow.holds Try.pinned (OpenSpec.upto fnTensionsSpec)

end Rows
end Go.Proofs.Ytgjjmgneekjapaa
