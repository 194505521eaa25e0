/-
  DERIVED. GIVEN WITH THE SEED: THE CARDS: each row of YtgjjmgneekjapaaDoorRows.lean that lists a variable, with what it lists TIED to the program's text (the seventh form; the later family's looks); each row that meets fmt, with fmt's text TOLD by the authors' own Lean function (tested against real Go, not proved from fmt's source: count such statements apart). THE CARD IS WHAT COUNTS. Prove the row's statement (the work); the ties are given (YtgjjmgneekjapaaDoorTie.lean); close each card by the builder's one call (the guide's Derived/Test/ToyasCard.lean, 'card_holds'). Laid BY PROGRAM, IN A SANDBOX (cutbox-door.mjs). By AI agents, Wed Nov 11 2026. No macro, syntax, notation, axiom, sorry.
-/
import Derived.Test.YtgjjmgneekjapaaDoorRows
import GoSem.ClaimSeven
namespace Go.Proofs.YtgjjmgneekjapaaDoor
namespace Rows

/-- THE TIED CARD OF 'laws.FnExactSeatText'. -/
def fnExactSeatTextCard : Claim7 := { stood := { row := fnExactSeatTextRow, standIns := [], harness := (true, "bf34ff310abbff2dceb15d8ef1eb09a411655fcba7f5528d4bbb5acfe629d350"), looks := false }, kinds := [], alts := [], laidByText := true, laidKinds := [.data, .data, .data], laidTests := true, laidLooks := .later }
def FnExactSeatTextCardSaid : Prop := Claim7.holds Tryd.pinned (.plain (OpenSpec.ofChange fnExactSeatTextSpec)) fnExactSeatTextCard

/-- THE TIED CARD OF 'laws.FnSeats'. -/
def fnSeatsCard : Claim7 := { stood := { row := fnSeatsRow, standIns := [], harness := (true, "bf34ff310abbff2dceb15d8ef1eb09a411655fcba7f5528d4bbb5acfe629d350"), looks := false }, kinds := [], alts := [], laidByText := true, laidKinds := [.data, .data, .data], laidTests := true, laidLooks := .later }
def FnSeatsCardSaid : Prop := Claim7.holds Tryd.pinned (.plain (OpenSpec.ofChange fnSeatsSpec)) fnSeatsCard

/-- THE SECOND FORM's CARD OF 'laws.FnExactSeatText'. -/
def fnExactSeatTextUptoCard : Claim7 := { stood := { row := fnExactSeatTextUptoRow, standIns := [], harness := (true, "bf34ff310abbff2dceb15d8ef1eb09a411655fcba7f5528d4bbb5acfe629d350"), looks := false }, kinds := [], alts := [], laidByText := true, laidKinds := [.data, .data, .data], laidTests := true, laidLooks := .later }
def FnExactSeatTextUptoCardSaid : Prop := Claim7.holds Tryd.pinned (.plain (OpenSpec.upto fnExactSeatTextSpec)) fnExactSeatTextUptoCard

/-- THE SECOND FORM's CARD OF 'laws.FnSeats'. -/
def fnSeatsUptoCard : Claim7 := { stood := { row := fnSeatsUptoRow, standIns := [], harness := (true, "bf34ff310abbff2dceb15d8ef1eb09a411655fcba7f5528d4bbb5acfe629d350"), looks := false }, kinds := [], alts := [], laidByText := true, laidKinds := [.data, .data, .data], laidTests := true, laidLooks := .later }
def FnSeatsUptoCardSaid : Prop := Claim7.holds Tryd.pinned (.plain (OpenSpec.upto fnSeatsSpec)) fnSeatsUptoCard
end Rows
end Go.Proofs.YtgjjmgneekjapaaDoor
