/-
  DERIVED. GIVEN WITH THE SEED: THE CARDS: each row of YtopefgahppfkcaaDoorRows.lean that lists a variable, with what it lists TIED to the program's text (the seventh form; the later family's looks); each row that meets fmt, with fmt's text TOLD by the authors' own Lean function (tested against real Go, not proved from fmt's source: count such statements apart). THE CARD IS WHAT COUNTS. Prove the row's statement (the work); the ties are given (YtopefgahppfkcaaDoorTie.lean); close each card by the builder's one call (the guide's Derived/Test/ToyasCard.lean, 'card_holds'). Laid BY PROGRAM, IN A SANDBOX (cutbox-door.mjs). By AI agents, Wed Nov 11 2026. No macro, syntax, notation, axiom, sorry.
-/
import Derived.Test.YtopefgahppfkcaaDoorRows
import GoSem.ClaimSeven
namespace Go.Proofs.YtopefgahppfkcaaDoor
namespace Rows

/-- THE TIED CARD OF 'laws.FnExactReportText'. -/
def fnExactReportTextCard : Claim7 := { stood := { row := fnExactReportTextRow, standIns := [], harness := (true, "6f1759105e7bc318326e071be5033c16428d8f359c683eec949f159e2b53250f"), looks := false }, kinds := [], alts := [], laidByText := true, laidKinds := [.data, .data, .data], laidTests := true, laidLooks := .later }
def FnExactReportTextCardSaid : Prop := Claim7.holds Tryd.pinned (.plain (OpenSpec.ofChange fnExactReportTextSpec)) fnExactReportTextCard

/-- THE TIED CARD OF 'laws.FnExactValidBasket'. -/
def fnExactValidBasketCard : Claim7 := { stood := { row := fnExactValidBasketRow, standIns := [], harness := (true, "6f1759105e7bc318326e071be5033c16428d8f359c683eec949f159e2b53250f"), looks := false }, kinds := [], alts := [], laidByText := true, laidKinds := [.data, .pinned], laidTests := true, laidLooks := .later }
def FnExactValidBasketCardSaid : Prop := Claim7.holds Tryd.pinned (.plain (OpenSpec.ofChange fnExactValidBasketSpec)) fnExactValidBasketCard

/-- THE TIED CARD OF 'laws.FnExactRoundsOfBasket'. -/
def fnExactRoundsOfBasketCard : Claim7 := { stood := { row := fnExactRoundsOfBasketRow, standIns := [], harness := (true, "6f1759105e7bc318326e071be5033c16428d8f359c683eec949f159e2b53250f"), looks := false }, kinds := [], alts := [], laidByText := true, laidKinds := [.data, .pinned], laidTests := true, laidLooks := .later }
def FnExactRoundsOfBasketCardSaid : Prop := Claim7.holds Tryd.pinned (.plain (OpenSpec.ofChange fnExactRoundsOfBasketSpec)) fnExactRoundsOfBasketCard

/-- THE TIED CARD OF 'laws.FnExactLayerAt'. -/
def fnExactLayerAtCard : Claim7 := { stood := { row := fnExactLayerAtRow, standIns := [], harness := (true, "6f1759105e7bc318326e071be5033c16428d8f359c683eec949f159e2b53250f"), looks := false }, kinds := [], alts := [], laidByText := true, laidKinds := [.data, .pinned], laidTests := true, laidLooks := .later }
def FnExactLayerAtCardSaid : Prop := Claim7.holds Tryd.pinned (.plain (OpenSpec.ofChange fnExactLayerAtSpec)) fnExactLayerAtCard

/-- THE TIED CARD OF 'laws.FnExactMergeLayers'. -/
def fnExactMergeLayersCard : Claim7 := { stood := { row := fnExactMergeLayersRow, standIns := [], harness := (true, "6f1759105e7bc318326e071be5033c16428d8f359c683eec949f159e2b53250f"), looks := false }, kinds := [], alts := [], laidByText := true, laidKinds := [.data, .pinned], laidTests := true, laidLooks := .later }
def FnExactMergeLayersCardSaid : Prop := Claim7.holds Tryd.pinned (.plain (OpenSpec.ofChange fnExactMergeLayersSpec)) fnExactMergeLayersCard

/-- THE SECOND FORM's CARD OF 'laws.FnExactReportText'. -/
def fnExactReportTextUptoCard : Claim7 := { stood := { row := fnExactReportTextUptoRow, standIns := [], harness := (true, "6f1759105e7bc318326e071be5033c16428d8f359c683eec949f159e2b53250f"), looks := false }, kinds := [], alts := [], laidByText := true, laidKinds := [.data, .data, .data], laidTests := true, laidLooks := .later }
def FnExactReportTextUptoCardSaid : Prop := Claim7.holds Tryd.pinned (.plain (OpenSpec.upto fnExactReportTextSpec)) fnExactReportTextUptoCard

/-- THE SECOND FORM's CARD OF 'laws.FnExactValidBasket'. -/
def fnExactValidBasketUptoCard : Claim7 := { stood := { row := fnExactValidBasketUptoRow, standIns := [], harness := (true, "6f1759105e7bc318326e071be5033c16428d8f359c683eec949f159e2b53250f"), looks := false }, kinds := [], alts := [], laidByText := true, laidKinds := [.data, .pinned], laidTests := true, laidLooks := .later }
def FnExactValidBasketUptoCardSaid : Prop := Claim7.holds Tryd.pinned (.plain (OpenSpec.upto fnExactValidBasketSpec)) fnExactValidBasketUptoCard

/-- THE SECOND FORM's CARD OF 'laws.FnExactRoundsOfBasket'. -/
def fnExactRoundsOfBasketUptoCard : Claim7 := { stood := { row := fnExactRoundsOfBasketUptoRow, standIns := [], harness := (true, "6f1759105e7bc318326e071be5033c16428d8f359c683eec949f159e2b53250f"), looks := false }, kinds := [], alts := [], laidByText := true, laidKinds := [.data, .pinned], laidTests := true, laidLooks := .later }
def FnExactRoundsOfBasketUptoCardSaid : Prop := Claim7.holds Tryd.pinned (.plain (OpenSpec.upto fnExactRoundsOfBasketSpec)) fnExactRoundsOfBasketUptoCard

/-- THE SECOND FORM's CARD OF 'laws.FnExactLayerAt'. -/
def fnExactLayerAtUptoCard : Claim7 := { stood := { row := fnExactLayerAtUptoRow, standIns := [], harness := (true, "6f1759105e7bc318326e071be5033c16428d8f359c683eec949f159e2b53250f"), looks := false }, kinds := [], alts := [], laidByText := true, laidKinds := [.data, .pinned], laidTests := true, laidLooks := .later }
def FnExactLayerAtUptoCardSaid : Prop := Claim7.holds Tryd.pinned (.plain (OpenSpec.upto fnExactLayerAtSpec)) fnExactLayerAtUptoCard

/-- THE SECOND FORM's CARD OF 'laws.FnExactMergeLayers'. -/
def fnExactMergeLayersUptoCard : Claim7 := { stood := { row := fnExactMergeLayersUptoRow, standIns := [], harness := (true, "6f1759105e7bc318326e071be5033c16428d8f359c683eec949f159e2b53250f"), looks := false }, kinds := [], alts := [], laidByText := true, laidKinds := [.data, .pinned], laidTests := true, laidLooks := .later }
def FnExactMergeLayersUptoCardSaid : Prop := Claim7.holds Tryd.pinned (.plain (OpenSpec.upto fnExactMergeLayersSpec)) fnExactMergeLayersUptoCard
end Rows
end Go.Proofs.YtopefgahppfkcaaDoor
