/-
  No cell of these rows narrows 'for every input' (looked for: loops, veiled, ifaces, maps, wideKeys, modest, calm, conditions, laid).
  DERIVED. THE GIVEN ROWS OF THIS SEAT. 11 by the template 'for every input the law returns true; each argument reads behind the call as it read before'; 0 by the template 'total and deterministic' (their statements: YtkkipkmjhakknaaTotals.lean).
  GIVEN WITH THE SEED: the statements are not yours to turn. If you find one false, say at which input.
  Laid BY PROGRAM, IN A SANDBOX (cutbox-rows.mjs): the forced cells as the released guide's own fill.sh prints them over the translation e89a938e98241521… (all of the seat's roots in one cut). By AI agents, Wed Nov 11 2026. No macro, syntax, notation, axiom, sorry.
-/
import Derived.Test.YtkkipkmjhakknaaChecked
import GoSem.Claim
import GoSem.ClaimJoined
import GoSem.ClaimMapViews
import Derived.JoinedTies
import Derived.KernelRfl
namespace Go.Proofs.Ytkkipkmjhakknaa
/- THE CELL 'sum', in the pinned program and in every row, IS THE sha256 OF THE DUMP (.gsa) THAT YtkkipkmjhakknaaProg.lean LOADS. Nothing in Lean hashes anything: it is a label: what it is worth is what the hold of that sum in a sandbox is worth. -/
noncomputable def Try.pinned : Pinned := { name := "ytkkipkmjhakknaa", sum := "e89a938e98241521fba9274d22b8a438717ab4ffa4c56f5e3f64b4e20dc6c9b5", checked := Try.checked }
namespace Rows
def none {H : Type} : Left H := { results := [], args := [] }

/-- 'laws.FnPacking': WHATEVER THE INPUT: true; the input reads as it did. -/
def fnPackingSpec : ChangeSpec := { name := "fnPacking", fn := fun _ => fun
  | [d1, d2] => { results := [.lit (.bool true)], args := [d1, d2] }
  | _ => none }
def fnPackingRow : OpenClaim := { program := "ytkkipkmjhakknaa", sum := "e89a938e98241521fba9274d22b8a438717ab4ffa4c56f5e3f64b4e20dc6c9b5", func := "loop.example/g01064/laws.FnPacking", spec := "fnPacking", unfollowed := true, recurses := true, apart := false }
def FnPackingSaid : Prop := fnPackingRow.holds Try.pinned (OpenSpec.ofChange fnPackingSpec)

/-- ITS FALSE NEIGHBOUR: 'it returns false'. Refute it at one input. -/
def fnPackingWrong : ChangeSpec := { name := "fnPacking", fn := fun _ => fun
  | [d1, d2] => { results := [.lit (.bool false)], args := [d1, d2] }
  | _ => none }
def FnPackingWrongFalsely : Prop := fnPackingRow.holds Try.pinned (OpenSpec.ofChange fnPackingWrong)

/-- 'laws.FnExactValidGoods': WHATEVER THE INPUT: true; the input reads as it did. -/
def fnExactValidGoodsSpec : ChangeSpec := { name := "fnExactValidGoods", fn := fun _ => fun
  | [d] => { results := [.lit (.bool true)], args := [d] }
  | _ => none }
def fnExactValidGoodsRow : OpenClaim := { program := "ytkkipkmjhakknaa", sum := "e89a938e98241521fba9274d22b8a438717ab4ffa4c56f5e3f64b4e20dc6c9b5", func := "loop.example/g01064/laws.FnExactValidGoods", spec := "fnExactValidGoods", apart := false }
def FnExactValidGoodsSaid : Prop := fnExactValidGoodsRow.holds Try.pinned (OpenSpec.ofChange fnExactValidGoodsSpec)

/-- ITS FALSE NEIGHBOUR: 'it returns false'. Refute it at one input. -/
def fnExactValidGoodsWrong : ChangeSpec := { name := "fnExactValidGoods", fn := fun _ => fun
  | [d] => { results := [.lit (.bool false)], args := [d] }
  | _ => none }
def FnExactValidGoodsWrongFalsely : Prop := fnExactValidGoodsRow.holds Try.pinned (OpenSpec.ofChange fnExactValidGoodsWrong)

/-- 'laws.FnExactStrandsFor': WHATEVER THE INPUT: true; the input reads as it did. -/
def fnExactStrandsForSpec : ChangeSpec := { name := "fnExactStrandsFor", fn := fun _ => fun
  | [d1, d2, d3] => { results := [.lit (.bool true)], args := [d1, d2, d3] }
  | _ => none }
def fnExactStrandsForRow : OpenClaim := { program := "ytkkipkmjhakknaa", sum := "e89a938e98241521fba9274d22b8a438717ab4ffa4c56f5e3f64b4e20dc6c9b5", func := "loop.example/g01064/laws.FnExactStrandsFor", spec := "fnExactStrandsFor", apart := false }
def FnExactStrandsForSaid : Prop := fnExactStrandsForRow.holds Try.pinned (OpenSpec.ofChange fnExactStrandsForSpec)

/-- ITS FALSE NEIGHBOUR: 'it returns false'. Refute it at one input. -/
def fnExactStrandsForWrong : ChangeSpec := { name := "fnExactStrandsFor", fn := fun _ => fun
  | [d1, d2, d3] => { results := [.lit (.bool false)], args := [d1, d2, d3] }
  | _ => none }
def FnExactStrandsForWrongFalsely : Prop := fnExactStrandsForRow.holds Try.pinned (OpenSpec.ofChange fnExactStrandsForWrong)

/-- 'laws.FnExactTiltAt': WHATEVER THE INPUT: true; the input reads as it did. -/
def fnExactTiltAtSpec : ChangeSpec := { name := "fnExactTiltAt", fn := fun _ => fun
  | [d1, d2] => { results := [.lit (.bool true)], args := [d1, d2] }
  | _ => none }
def fnExactTiltAtRow : OpenClaim := { program := "ytkkipkmjhakknaa", sum := "e89a938e98241521fba9274d22b8a438717ab4ffa4c56f5e3f64b4e20dc6c9b5", func := "loop.example/g01064/laws.FnExactTiltAt", spec := "fnExactTiltAt", apart := false }
def FnExactTiltAtSaid : Prop := fnExactTiltAtRow.holds Try.pinned (OpenSpec.ofChange fnExactTiltAtSpec)

/-- ITS FALSE NEIGHBOUR: 'it returns false'. Refute it at one input. -/
def fnExactTiltAtWrong : ChangeSpec := { name := "fnExactTiltAt", fn := fun _ => fun
  | [d1, d2] => { results := [.lit (.bool false)], args := [d1, d2] }
  | _ => none }
def FnExactTiltAtWrongFalsely : Prop := fnExactTiltAtRow.holds Try.pinned (OpenSpec.ofChange fnExactTiltAtWrong)

/-- 'laws.FnExactWithoutGood': WHATEVER THE INPUT: true; the input reads as it did. -/
def fnExactWithoutGoodSpec : ChangeSpec := { name := "fnExactWithoutGood", fn := fun _ => fun
  | [d1, d2] => { results := [.lit (.bool true)], args := [d1, d2] }
  | _ => none }
def fnExactWithoutGoodRow : OpenClaim := { program := "ytkkipkmjhakknaa", sum := "e89a938e98241521fba9274d22b8a438717ab4ffa4c56f5e3f64b4e20dc6c9b5", func := "loop.example/g01064/laws.FnExactWithoutGood", spec := "fnExactWithoutGood", apart := false }
def FnExactWithoutGoodSaid : Prop := fnExactWithoutGoodRow.holds Try.pinned (OpenSpec.ofChange fnExactWithoutGoodSpec)

/-- ITS FALSE NEIGHBOUR: 'it returns false'. Refute it at one input. -/
def fnExactWithoutGoodWrong : ChangeSpec := { name := "fnExactWithoutGood", fn := fun _ => fun
  | [d1, d2] => { results := [.lit (.bool false)], args := [d1, d2] }
  | _ => none }
def FnExactWithoutGoodWrongFalsely : Prop := fnExactWithoutGoodRow.holds Try.pinned (OpenSpec.ofChange fnExactWithoutGoodWrong)

/-- 'laws.FnExactCounterWeight': WHATEVER THE INPUT: true; the input reads as it did. -/
def fnExactCounterWeightSpec : ChangeSpec := { name := "fnExactCounterWeight", fn := fun _ => fun
  | [d1, d2, d3] => { results := [.lit (.bool true)], args := [d1, d2, d3] }
  | _ => none }
def fnExactCounterWeightRow : OpenClaim := { program := "ytkkipkmjhakknaa", sum := "e89a938e98241521fba9274d22b8a438717ab4ffa4c56f5e3f64b4e20dc6c9b5", func := "loop.example/g01064/laws.FnExactCounterWeight", spec := "fnExactCounterWeight", apart := false }
def FnExactCounterWeightSaid : Prop := fnExactCounterWeightRow.holds Try.pinned (OpenSpec.ofChange fnExactCounterWeightSpec)

/-- ITS FALSE NEIGHBOUR: 'it returns false'. Refute it at one input. -/
def fnExactCounterWeightWrong : ChangeSpec := { name := "fnExactCounterWeight", fn := fun _ => fun
  | [d1, d2, d3] => { results := [.lit (.bool false)], args := [d1, d2, d3] }
  | _ => none }
def FnExactCounterWeightWrongFalsely : Prop := fnExactCounterWeightRow.holds Try.pinned (OpenSpec.ofChange fnExactCounterWeightWrong)

/-- 'laws.FnGoods': WHATEVER THE INPUT: true; the input reads as it did. -/
def fnGoodsSpec : ChangeSpec := { name := "fnGoods", fn := fun _ => fun
  | [d1, d2] => { results := [.lit (.bool true)], args := [d1, d2] }
  | _ => none }
def fnGoodsRow : OpenClaim := { program := "ytkkipkmjhakknaa", sum := "e89a938e98241521fba9274d22b8a438717ab4ffa4c56f5e3f64b4e20dc6c9b5", func := "loop.example/g01064/laws.FnGoods", spec := "fnGoods", apart := false }
def FnGoodsSaid : Prop := fnGoodsRow.holds Try.pinned (OpenSpec.ofChange fnGoodsSpec)

/-- ITS FALSE NEIGHBOUR: 'it returns false'. Refute it at one input. -/
def fnGoodsWrong : ChangeSpec := { name := "fnGoods", fn := fun _ => fun
  | [d1, d2] => { results := [.lit (.bool false)], args := [d1, d2] }
  | _ => none }
def FnGoodsWrongFalsely : Prop := fnGoodsRow.holds Try.pinned (OpenSpec.ofChange fnGoodsWrong)

/-- 'laws.FnExactPackLevel': WHATEVER THE INPUT: true; the input reads as it did. -/
def fnExactPackLevelSpec : ChangeSpec := { name := "fnExactPackLevel", fn := fun _ => fun
  | [d1, d2, d3] => { results := [.lit (.bool true)], args := [d1, d2, d3] }
  | _ => none }
def fnExactPackLevelRow : OpenClaim := { program := "ytkkipkmjhakknaa", sum := "e89a938e98241521fba9274d22b8a438717ab4ffa4c56f5e3f64b4e20dc6c9b5", func := "loop.example/g01064/laws.FnExactPackLevel", spec := "fnExactPackLevel", unfollowed := true, recurses := true, apart := false }
def FnExactPackLevelSaid : Prop := fnExactPackLevelRow.holds Try.pinned (OpenSpec.ofChange fnExactPackLevelSpec)

/-- ITS FALSE NEIGHBOUR: 'it returns false'. Refute it at one input. -/
def fnExactPackLevelWrong : ChangeSpec := { name := "fnExactPackLevel", fn := fun _ => fun
  | [d1, d2, d3] => { results := [.lit (.bool false)], args := [d1, d2, d3] }
  | _ => none }
def FnExactPackLevelWrongFalsely : Prop := fnExactPackLevelRow.holds Try.pinned (OpenSpec.ofChange fnExactPackLevelWrong)

/-- 'laws.FnExactCentreOf': WHATEVER THE INPUT: true; the input reads as it did. -/
def fnExactCentreOfSpec : ChangeSpec := { name := "fnExactCentreOf", fn := fun _ => fun
  | [d] => { results := [.lit (.bool true)], args := [d] }
  | _ => none }
def fnExactCentreOfRow : OpenClaim := { program := "ytkkipkmjhakknaa", sum := "e89a938e98241521fba9274d22b8a438717ab4ffa4c56f5e3f64b4e20dc6c9b5", func := "loop.example/g01064/laws.FnExactCentreOf", spec := "fnExactCentreOf", apart := false }
def FnExactCentreOfSaid : Prop := fnExactCentreOfRow.holds Try.pinned (OpenSpec.ofChange fnExactCentreOfSpec)

/-- ITS FALSE NEIGHBOUR: 'it returns false'. Refute it at one input. -/
def fnExactCentreOfWrong : ChangeSpec := { name := "fnExactCentreOf", fn := fun _ => fun
  | [d] => { results := [.lit (.bool false)], args := [d] }
  | _ => none }
def FnExactCentreOfWrongFalsely : Prop := fnExactCentreOfRow.holds Try.pinned (OpenSpec.ofChange fnExactCentreOfWrong)

/-- 'laws.FnExactSharesOf': WHATEVER THE INPUT: true; the input reads as it did. -/
def fnExactSharesOfSpec : ChangeSpec := { name := "fnExactSharesOf", fn := fun _ => fun
  | [d1, d2, d3] => { results := [.lit (.bool true)], args := [d1, d2, d3] }
  | _ => none }
def fnExactSharesOfRow : OpenClaim := { program := "ytkkipkmjhakknaa", sum := "e89a938e98241521fba9274d22b8a438717ab4ffa4c56f5e3f64b4e20dc6c9b5", func := "loop.example/g01064/laws.FnExactSharesOf", spec := "fnExactSharesOf", apart := false }
def FnExactSharesOfSaid : Prop := fnExactSharesOfRow.holds Try.pinned (OpenSpec.ofChange fnExactSharesOfSpec)

/-- ITS FALSE NEIGHBOUR: 'it returns false'. Refute it at one input. -/
def fnExactSharesOfWrong : ChangeSpec := { name := "fnExactSharesOf", fn := fun _ => fun
  | [d1, d2, d3] => { results := [.lit (.bool false)], args := [d1, d2, d3] }
  | _ => none }
def FnExactSharesOfWrongFalsely : Prop := fnExactSharesOfRow.holds Try.pinned (OpenSpec.ofChange fnExactSharesOfWrong)

/-- 'laws.FnExactBestHandle': WHATEVER THE INPUT: true; the input reads as it did. -/
def fnExactBestHandleSpec : ChangeSpec := { name := "fnExactBestHandle", fn := fun _ => fun
  | [d1, d2] => { results := [.lit (.bool true)], args := [d1, d2] }
  | _ => none }
def fnExactBestHandleRow : OpenClaim := { program := "ytkkipkmjhakknaa", sum := "e89a938e98241521fba9274d22b8a438717ab4ffa4c56f5e3f64b4e20dc6c9b5", func := "loop.example/g01064/laws.FnExactBestHandle", spec := "fnExactBestHandle", apart := false }
def FnExactBestHandleSaid : Prop := fnExactBestHandleRow.holds Try.pinned (OpenSpec.ofChange fnExactBestHandleSpec)

/-- ITS FALSE NEIGHBOUR: 'it returns false'. Refute it at one input. -/
def fnExactBestHandleWrong : ChangeSpec := { name := "fnExactBestHandle", fn := fun _ => fun
  | [d1, d2] => { results := [.lit (.bool false)], args := [d1, d2] }
  | _ => none }
def FnExactBestHandleWrongFalsely : Prop := fnExactBestHandleRow.holds Try.pinned (OpenSpec.ofChange fnExactBestHandleWrong)

/- THE SECOND FORM. 'bulk': how many values and letters a reading holds, each counted each time it is reached (what is shared counts as often as it is met; a slice's spare places count too). A statement '..UptoSaid' is the law's where the arguments, and the package variables that the reading takes, are together of bulk at most 1048576: NARROWER than '..Said'. Prove '..Said' where nothing that the law and all that it calls make is longer than what came in: it says more and counts as full. Else prove '..UptoSaid'. A law counts once. -/
mutual
def uptoBulk {H : Type} : DataW H → Nat
  | .lit (.string bytes) => bytes.length + 1
  | .lit _ => 1
  | .nil => 1
  | .ptr d => uptoBulk d + 1
  | .slice elems spare => uptoBulkAll elems + uptoBulkAll spare + 1
  | .agg parts => uptoBulkAll parts + 1
  | .iface _ d => uptoBulk d + 1
  | .map entries => uptoBulkEntries entries + 1
  | .held _ => 1
def uptoBulkAll {H : Type} : List (DataW H) → Nat
  | [] => 0
  | d :: r => uptoBulk d + uptoBulkAll r
def uptoBulkEntries {H : Type} : List (Lit × DataW H) → Nat
  | [] => 0
  | x :: r => uptoBulkEntry x + uptoBulkEntries r
def uptoBulkEntry {H : Type} : Lit × DataW H → Nat
  | (.string bytes, d) => bytes.length + uptoBulk d + 1
  | (_, d) => uptoBulk d + 1
 end
def uptoSmall : (H : Type) → List (DataW H) → Bool := fun _ ds => decide (uptoBulkAll ds ≤ 1048576)
def OpenSpec.upto (s : _root_.Go.ChangeSpec) : _root_.Go.OpenSpec := { _root_.Go.OpenSpec.ofChange s with cond := some uptoSmall }

/-- 'laws.FnPacking', WHERE WHAT IT READS IS OF BULK AT MOST 1048576: true; the input reads as it did. -/
def fnPackingUptoRow : OpenClaim := { program := "ytkkipkmjhakknaa", sum := "e89a938e98241521fba9274d22b8a438717ab4ffa4c56f5e3f64b4e20dc6c9b5", func := "loop.example/g01064/laws.FnPacking", spec := "fnPacking", unfollowed := true, recurses := true, apart := false, narrowed := true }
def FnPackingUptoSaid : Prop := fnPackingUptoRow.holds Try.pinned (OpenSpec.upto fnPackingSpec)

/-- 'laws.FnExactValidGoods', WHERE WHAT IT READS IS OF BULK AT MOST 1048576: true; the input reads as it did. -/
def fnExactValidGoodsUptoRow : OpenClaim := { program := "ytkkipkmjhakknaa", sum := "e89a938e98241521fba9274d22b8a438717ab4ffa4c56f5e3f64b4e20dc6c9b5", func := "loop.example/g01064/laws.FnExactValidGoods", spec := "fnExactValidGoods", apart := false, narrowed := true }
def FnExactValidGoodsUptoSaid : Prop := fnExactValidGoodsUptoRow.holds Try.pinned (OpenSpec.upto fnExactValidGoodsSpec)

/-- 'laws.FnExactStrandsFor', WHERE WHAT IT READS IS OF BULK AT MOST 1048576: true; the input reads as it did. -/
def fnExactStrandsForUptoRow : OpenClaim := { program := "ytkkipkmjhakknaa", sum := "e89a938e98241521fba9274d22b8a438717ab4ffa4c56f5e3f64b4e20dc6c9b5", func := "loop.example/g01064/laws.FnExactStrandsFor", spec := "fnExactStrandsFor", apart := false, narrowed := true }
def FnExactStrandsForUptoSaid : Prop := fnExactStrandsForUptoRow.holds Try.pinned (OpenSpec.upto fnExactStrandsForSpec)

/-- 'laws.FnExactTiltAt', WHERE WHAT IT READS IS OF BULK AT MOST 1048576: true; the input reads as it did. -/
def fnExactTiltAtUptoRow : OpenClaim := { program := "ytkkipkmjhakknaa", sum := "e89a938e98241521fba9274d22b8a438717ab4ffa4c56f5e3f64b4e20dc6c9b5", func := "loop.example/g01064/laws.FnExactTiltAt", spec := "fnExactTiltAt", apart := false, narrowed := true }
def FnExactTiltAtUptoSaid : Prop := fnExactTiltAtUptoRow.holds Try.pinned (OpenSpec.upto fnExactTiltAtSpec)

/-- 'laws.FnExactWithoutGood', WHERE WHAT IT READS IS OF BULK AT MOST 1048576: true; the input reads as it did. -/
def fnExactWithoutGoodUptoRow : OpenClaim := { program := "ytkkipkmjhakknaa", sum := "e89a938e98241521fba9274d22b8a438717ab4ffa4c56f5e3f64b4e20dc6c9b5", func := "loop.example/g01064/laws.FnExactWithoutGood", spec := "fnExactWithoutGood", apart := false, narrowed := true }
def FnExactWithoutGoodUptoSaid : Prop := fnExactWithoutGoodUptoRow.holds Try.pinned (OpenSpec.upto fnExactWithoutGoodSpec)

/-- 'laws.FnExactCounterWeight', WHERE WHAT IT READS IS OF BULK AT MOST 1048576: true; the input reads as it did. -/
def fnExactCounterWeightUptoRow : OpenClaim := { program := "ytkkipkmjhakknaa", sum := "e89a938e98241521fba9274d22b8a438717ab4ffa4c56f5e3f64b4e20dc6c9b5", func := "loop.example/g01064/laws.FnExactCounterWeight", spec := "fnExactCounterWeight", apart := false, narrowed := true }
def FnExactCounterWeightUptoSaid : Prop := fnExactCounterWeightUptoRow.holds Try.pinned (OpenSpec.upto fnExactCounterWeightSpec)

/-- 'laws.FnGoods', WHERE WHAT IT READS IS OF BULK AT MOST 1048576: true; the input reads as it did. -/
def fnGoodsUptoRow : OpenClaim := { program := "ytkkipkmjhakknaa", sum := "e89a938e98241521fba9274d22b8a438717ab4ffa4c56f5e3f64b4e20dc6c9b5", func := "loop.example/g01064/laws.FnGoods", spec := "fnGoods", apart := false, narrowed := true }
def FnGoodsUptoSaid : Prop := fnGoodsUptoRow.holds Try.pinned (OpenSpec.upto fnGoodsSpec)

/-- 'laws.FnExactPackLevel', WHERE WHAT IT READS IS OF BULK AT MOST 1048576: true; the input reads as it did. -/
def fnExactPackLevelUptoRow : OpenClaim := { program := "ytkkipkmjhakknaa", sum := "e89a938e98241521fba9274d22b8a438717ab4ffa4c56f5e3f64b4e20dc6c9b5", func := "loop.example/g01064/laws.FnExactPackLevel", spec := "fnExactPackLevel", unfollowed := true, recurses := true, apart := false, narrowed := true }
def FnExactPackLevelUptoSaid : Prop := fnExactPackLevelUptoRow.holds Try.pinned (OpenSpec.upto fnExactPackLevelSpec)

/-- 'laws.FnExactCentreOf', WHERE WHAT IT READS IS OF BULK AT MOST 1048576: true; the input reads as it did. -/
def fnExactCentreOfUptoRow : OpenClaim := { program := "ytkkipkmjhakknaa", sum := "e89a938e98241521fba9274d22b8a438717ab4ffa4c56f5e3f64b4e20dc6c9b5", func := "loop.example/g01064/laws.FnExactCentreOf", spec := "fnExactCentreOf", apart := false, narrowed := true }
def FnExactCentreOfUptoSaid : Prop := fnExactCentreOfUptoRow.holds Try.pinned (OpenSpec.upto fnExactCentreOfSpec)

/-- 'laws.FnExactSharesOf', WHERE WHAT IT READS IS OF BULK AT MOST 1048576: true; the input reads as it did. -/
def fnExactSharesOfUptoRow : OpenClaim := { program := "ytkkipkmjhakknaa", sum := "e89a938e98241521fba9274d22b8a438717ab4ffa4c56f5e3f64b4e20dc6c9b5", func := "loop.example/g01064/laws.FnExactSharesOf", spec := "fnExactSharesOf", apart := false, narrowed := true }
def FnExactSharesOfUptoSaid : Prop := fnExactSharesOfUptoRow.holds Try.pinned (OpenSpec.upto fnExactSharesOfSpec)

/-- 'laws.FnExactBestHandle', WHERE WHAT IT READS IS OF BULK AT MOST 1048576: true; the input reads as it did. -/
def fnExactBestHandleUptoRow : OpenClaim := { program := "ytkkipkmjhakknaa", sum := "e89a938e98241521fba9274d22b8a438717ab4ffa4c56f5e3f64b4e20dc6c9b5", func := "loop.example/g01064/laws.FnExactBestHandle", spec := "fnExactBestHandle", apart := false, narrowed := true }
def FnExactBestHandleUptoSaid : Prop := fnExactBestHandleUptoRow.holds Try.pinned (OpenSpec.upto fnExactBestHandleSpec)

end Rows
end Go.Proofs.Ytkkipkmjhakknaa
