/-
  DERIVED. GIVEN WITH THE SEED: THE CARDS: each row of YtmddcbebaijjkaaDoorRows.lean that lists a variable, with what it lists TIED to the program's text (the seventh form; the later family's looks); each row that meets fmt, with fmt's text TOLD by the authors' own Lean function (tested against real Go, not proved from fmt's source: count such statements apart). THE CARD IS WHAT COUNTS. Prove the row's statement (the work); the ties are given (YtmddcbebaijjkaaDoorTie.lean); close each card by the builder's one call (the guide's Derived/Test/ToyasCard.lean, 'card_holds'). Laid BY PROGRAM, IN A SANDBOX (cutbox-door.mjs). By AI agents, Wed Nov 11 2026. No macro, syntax, notation, axiom, sorry.
-/
import Derived.Test.YtmddcbebaijjkaaDoorRows
import GoSem.ClaimSeven
namespace Go.Proofs.YtmddcbebaijjkaaDoor
namespace Rows

/-- THE TIED CARD OF 'laws.FnExactFormatKnown'. -/
def fnExactFormatKnownCard : Claim7 := { stood := { row := fnExactFormatKnownRow, standIns := [], harness := (true, "b8534e6734d7b16912389f3a85fb3fb7736ee0e3f29220619e95d4ecc2a911bf"), looks := true }, kinds := [], alts := [], laidByText := true, laidKinds := [.data, .data, .data], laidTests := true, laidLooks := .later }
def FnExactFormatKnownCardSaid : Prop := Claim7.holds Tryd.pinned (.plain (OpenSpec.ofChange fnExactFormatKnownSpec)) fnExactFormatKnownCard

/-- THE TIED CARD OF 'laws.FnExactParseKnown'. -/
def fnExactParseKnownCard : Claim7 := { stood := { row := fnExactParseKnownRow, standIns := [], harness := (true, "b8534e6734d7b16912389f3a85fb3fb7736ee0e3f29220619e95d4ecc2a911bf"), looks := true }, kinds := [], alts := [], laidByText := true, laidKinds := [.data, .data, .data, .data, .sentinel, .sentinel, .pinned], laidTests := true, laidLooks := .later }
def FnExactParseKnownCardSaid : Prop := Claim7.holds Tryd.pinned (.plain (OpenSpec.ofChange fnExactParseKnownSpec)) fnExactParseKnownCard

/-- THE TIED CARD OF 'laws.FnExactFormatReader'. -/
def fnExactFormatReaderCard : Claim7 := { stood := { row := fnExactFormatReaderRow, standIns := [], harness := (true, "b8534e6734d7b16912389f3a85fb3fb7736ee0e3f29220619e95d4ecc2a911bf"), looks := true }, kinds := [], alts := [], laidByText := true, laidKinds := [.data, .data, .data], laidTests := true, laidLooks := .later }
def FnExactFormatReaderCardSaid : Prop := Claim7.holds Tryd.pinned (.plain (OpenSpec.ofChange fnExactFormatReaderSpec)) fnExactFormatReaderCard

/-- THE SECOND FORM's CARD OF 'laws.FnExactFormatKnown'. -/
def fnExactFormatKnownUptoCard : Claim7 := { stood := { row := fnExactFormatKnownUptoRow, standIns := [], harness := (true, "b8534e6734d7b16912389f3a85fb3fb7736ee0e3f29220619e95d4ecc2a911bf"), looks := true }, kinds := [], alts := [], laidByText := true, laidKinds := [.data, .data, .data], laidTests := true, laidLooks := .later }
def FnExactFormatKnownUptoCardSaid : Prop := Claim7.holds Tryd.pinned (.plain (OpenSpec.upto fnExactFormatKnownSpec)) fnExactFormatKnownUptoCard

/-- THE SECOND FORM's CARD OF 'laws.FnExactParseKnown'. -/
def fnExactParseKnownUptoCard : Claim7 := { stood := { row := fnExactParseKnownUptoRow, standIns := [], harness := (true, "b8534e6734d7b16912389f3a85fb3fb7736ee0e3f29220619e95d4ecc2a911bf"), looks := true }, kinds := [], alts := [], laidByText := true, laidKinds := [.data, .data, .data, .data, .sentinel, .sentinel, .pinned], laidTests := true, laidLooks := .later }
def FnExactParseKnownUptoCardSaid : Prop := Claim7.holds Tryd.pinned (.plain (OpenSpec.upto fnExactParseKnownSpec)) fnExactParseKnownUptoCard

/-- THE SECOND FORM's CARD OF 'laws.FnExactFormatReader'. -/
def fnExactFormatReaderUptoCard : Claim7 := { stood := { row := fnExactFormatReaderUptoRow, standIns := [], harness := (true, "b8534e6734d7b16912389f3a85fb3fb7736ee0e3f29220619e95d4ecc2a911bf"), looks := true }, kinds := [], alts := [], laidByText := true, laidKinds := [.data, .data, .data], laidTests := true, laidLooks := .later }
def FnExactFormatReaderUptoCardSaid : Prop := Claim7.holds Tryd.pinned (.plain (OpenSpec.upto fnExactFormatReaderSpec)) fnExactFormatReaderUptoCard
end Rows
end Go.Proofs.YtmddcbebaijjkaaDoor
