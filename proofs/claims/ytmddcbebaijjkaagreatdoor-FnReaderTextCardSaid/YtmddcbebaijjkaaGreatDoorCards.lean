/-
  DERIVED. GIVEN WITH THE SEED: THE CARDS: each row of YtmddcbebaijjkaaGreatDoorRows.lean that lists a variable, with what it lists TIED to the program's text (the seventh form; the later family's looks); each row that meets fmt, with fmt's text TOLD by the authors' own Lean function (tested against real Go, not proved from fmt's source: count such statements apart). THE CARD IS WHAT COUNTS. Prove the row's statement (the work); the ties are given (YtmddcbebaijjkaaGreatDoorTie.lean); close each card by the builder's one call (the guide's Derived/Test/ToyasCard.lean, 'card_holds'). Laid BY PROGRAM, IN A SANDBOX (cutbox-door.mjs). By AI agents, Wed Nov 11 2026. No macro, syntax, notation, axiom, sorry.
-/
import Derived.Test.YtmddcbebaijjkaaGreatDoorRows
import GoSem.ClaimSeven
namespace Go.Proofs.YtmddcbebaijjkaaGreatDoor
namespace Rows

/-- THE TIED CARD OF 'laws.FnExactParseReader'. -/
def fnExactParseReaderCard : Claim7 := { stood := { row := fnExactParseReaderRow, standIns := [], harness := (true, "2033fd716b89f7776d1f970430b2eb08c19b1e242253ac51085150ee17539390"), looks := true }, kinds := [], alts := [], laidByText := true, laidKinds := [.data, .data, .data, .data, .sentinel, .sentinel, .pinned], laidTests := true, laidLooks := .later }
def FnExactParseReaderCardSaid : Prop := Claim7.holds Tryz.pinned (.plain (OpenSpec.ofChange fnExactParseReaderSpec)) fnExactParseReaderCard

/-- THE TIED CARD OF 'laws.FnReaderResume'. -/
def fnReaderResumeCard : Claim7 := { stood := { row := fnReaderResumeRow, standIns := [], harness := (true, "2033fd716b89f7776d1f970430b2eb08c19b1e242253ac51085150ee17539390"), looks := true }, kinds := [], alts := [], laidByText := true, laidKinds := [.data, .data, .data, .data, .sentinel, .sentinel, .pinned], laidTests := true, laidLooks := .later }
def FnReaderResumeCardSaid : Prop := Claim7.holds Tryz.pinned (.plain (OpenSpec.ofChange fnReaderResumeSpec)) fnReaderResumeCard

/-- THE TIED CARD OF 'laws.FnReaderText'. -/
def fnReaderTextCard : Claim7 := { stood := { row := fnReaderTextRow, standIns := [], harness := (true, "2033fd716b89f7776d1f970430b2eb08c19b1e242253ac51085150ee17539390"), looks := true }, kinds := [], alts := [], laidByText := true, laidKinds := [.data, .data, .data, .data, .sentinel, .sentinel, .pinned], laidTests := true, laidLooks := .later }
def FnReaderTextCardSaid : Prop := Claim7.holds Tryz.pinned (.plain (OpenSpec.ofChange fnReaderTextSpec)) fnReaderTextCard

/-- THE TIED CARD OF 'laws.FnKnownText'. -/
def fnKnownTextCard : Claim7 := { stood := { row := fnKnownTextRow, standIns := [], harness := (true, "2033fd716b89f7776d1f970430b2eb08c19b1e242253ac51085150ee17539390"), looks := true }, kinds := [], alts := [], laidByText := true, laidKinds := [.data, .data, .data, .data, .sentinel, .sentinel, .pinned], laidTests := true, laidLooks := .later }
def FnKnownTextCardSaid : Prop := Claim7.holds Tryz.pinned (.plain (OpenSpec.ofChange fnKnownTextSpec)) fnKnownTextCard

/-- THE SECOND FORM's CARD OF 'laws.FnExactParseReader'. -/
def fnExactParseReaderUptoCard : Claim7 := { stood := { row := fnExactParseReaderUptoRow, standIns := [], harness := (true, "2033fd716b89f7776d1f970430b2eb08c19b1e242253ac51085150ee17539390"), looks := true }, kinds := [], alts := [], laidByText := true, laidKinds := [.data, .data, .data, .data, .sentinel, .sentinel, .pinned], laidTests := true, laidLooks := .later }
def FnExactParseReaderUptoCardSaid : Prop := Claim7.holds Tryz.pinned (.plain (OpenSpec.upto fnExactParseReaderSpec)) fnExactParseReaderUptoCard

/-- THE SECOND FORM's CARD OF 'laws.FnReaderResume'. -/
def fnReaderResumeUptoCard : Claim7 := { stood := { row := fnReaderResumeUptoRow, standIns := [], harness := (true, "2033fd716b89f7776d1f970430b2eb08c19b1e242253ac51085150ee17539390"), looks := true }, kinds := [], alts := [], laidByText := true, laidKinds := [.data, .data, .data, .data, .sentinel, .sentinel, .pinned], laidTests := true, laidLooks := .later }
def FnReaderResumeUptoCardSaid : Prop := Claim7.holds Tryz.pinned (.plain (OpenSpec.upto fnReaderResumeSpec)) fnReaderResumeUptoCard

/-- THE SECOND FORM's CARD OF 'laws.FnReaderText'. -/
def fnReaderTextUptoCard : Claim7 := { stood := { row := fnReaderTextUptoRow, standIns := [], harness := (true, "2033fd716b89f7776d1f970430b2eb08c19b1e242253ac51085150ee17539390"), looks := true }, kinds := [], alts := [], laidByText := true, laidKinds := [.data, .data, .data, .data, .sentinel, .sentinel, .pinned], laidTests := true, laidLooks := .later }
def FnReaderTextUptoCardSaid : Prop := Claim7.holds Tryz.pinned (.plain (OpenSpec.upto fnReaderTextSpec)) fnReaderTextUptoCard

/-- THE SECOND FORM's CARD OF 'laws.FnKnownText'. -/
def fnKnownTextUptoCard : Claim7 := { stood := { row := fnKnownTextUptoRow, standIns := [], harness := (true, "2033fd716b89f7776d1f970430b2eb08c19b1e242253ac51085150ee17539390"), looks := true }, kinds := [], alts := [], laidByText := true, laidKinds := [.data, .data, .data, .data, .sentinel, .sentinel, .pinned], laidTests := true, laidLooks := .later }
def FnKnownTextUptoCardSaid : Prop := Claim7.holds Tryz.pinned (.plain (OpenSpec.upto fnKnownTextSpec)) fnKnownTextUptoCard
end Rows
end Go.Proofs.YtmddcbebaijjkaaGreatDoor
