/-
  DERIVED. GIVEN WITH THE SEED: THE CARDS: each row of YtpaoeeamlinaaaaGreatDoorRows.lean that lists a variable, with what it lists TIED to the program's text (the seventh form; the later family's looks); each row that meets fmt, with fmt's text TOLD by the authors' own Lean function (tested against real Go, not proved from fmt's source: count such statements apart). THE CARD IS WHAT COUNTS. Prove the row's statement (the work); the ties are given (YtpaoeeamlinaaaaGreatDoorTie.lean); close each card by the builder's one call (the guide's Derived/Test/ToyasCard.lean, 'card_holds'). Laid BY PROGRAM, IN A SANDBOX (cutbox-door.mjs). By AI agents, Wed Nov 11 2026. No macro, syntax, notation, axiom, sorry.
-/
import Derived.Test.YtpaoeeamlinaaaaGreatDoorRows
import GoSem.ClaimSeven
namespace Go.Proofs.YtpaoeeamlinaaaaGreatDoor
namespace Rows

/-- THE TIED CARD OF 'majordomolaw27.JournalLines'. -/
def journalLinesCard : Claim7 := { stood := { row := journalLinesRow, standIns := [], harness := (true, "833221419be538dff2941889cb2dfea4c9aa642cb01d1021bec542105247472c"), looks := true }, kinds := [], alts := [], laidByText := true, laidKinds := [.data, .data, .data, .data, .sentinel, .sentinel, .widerDeep, .pinned], laidTests := true, laidLooks := .later }
def JournalLinesCardSaid : Prop := Claim7.holds Tryz.pinned (.plain (OpenSpec.ofChange journalLinesSpec)) journalLinesCard

/-- THE TIED CARD OF 'majordomolaw27.JournalReads'. -/
def journalReadsCard : Claim7 := { stood := { row := journalReadsRow, standIns := [], harness := (true, "833221419be538dff2941889cb2dfea4c9aa642cb01d1021bec542105247472c"), looks := true }, kinds := [], alts := [], laidByText := true, laidKinds := [.data, .data, .data, .data, .sentinel, .sentinel, .widerDeep, .pinned], laidTests := true, laidLooks := .later }
def JournalReadsCardSaid : Prop := Claim7.holds Tryz.pinned (.plain (OpenSpec.ofChange journalReadsSpec)) journalReadsCard

/-- THE TIED CARD OF 'majordomolaw27.JournalRound'. -/
def journalRoundCard : Claim7 := { stood := { row := journalRoundRow, standIns := [], harness := (true, "833221419be538dff2941889cb2dfea4c9aa642cb01d1021bec542105247472c"), looks := true }, kinds := [], alts := [], laidByText := true, laidKinds := [.data, .data, .data, .data, .sentinel, .sentinel, .widerDeep, .pinned], laidTests := true, laidLooks := .later }
def JournalRoundCardSaid : Prop := Claim7.holds Tryz.pinned (.plain (OpenSpec.ofChange journalRoundSpec)) journalRoundCard

/-- THE TIED CARD OF 'majordomolaw27.JournalFronts'. -/
def journalFrontsCard : Claim7 := { stood := { row := journalFrontsRow, standIns := [], harness := (true, "833221419be538dff2941889cb2dfea4c9aa642cb01d1021bec542105247472c"), looks := true }, kinds := [], alts := [], laidByText := true, laidKinds := [.data, .data, .data, .data, .sentinel, .sentinel, .widerDeep, .pinned], laidTests := true, laidLooks := .later }
def JournalFrontsCardSaid : Prop := Claim7.holds Tryz.pinned (.plain (OpenSpec.ofChange journalFrontsSpec)) journalFrontsCard

/-- THE TIED CARD OF 'majordomolaw27.JournalChanged'. -/
def journalChangedCard : Claim7 := { stood := { row := journalChangedRow, standIns := [], harness := (true, "833221419be538dff2941889cb2dfea4c9aa642cb01d1021bec542105247472c"), looks := true }, kinds := [], alts := [], laidByText := true, laidKinds := [.data, .data, .data, .data, .sentinel, .sentinel, .widerDeep, .pinned], laidTests := true, laidLooks := .later }
def JournalChangedCardSaid : Prop := Claim7.holds Tryz.pinned (.plain (OpenSpec.ofChange journalChangedSpec)) journalChangedCard

/-- THE TIED CARD OF 'majordomolaw27.JournalKnown'. -/
def journalKnownCard : Claim7 := { stood := { row := journalKnownRow, standIns := [], harness := (true, "833221419be538dff2941889cb2dfea4c9aa642cb01d1021bec542105247472c"), looks := true }, kinds := [], alts := [], laidByText := true, laidKinds := [.data, .data, .data, .data, .sentinel, .sentinel, .widerDeep, .pinned], laidTests := true, laidLooks := .later }
def JournalKnownCardSaid : Prop := Claim7.holds Tryz.pinned (.plain (OpenSpec.ofChange journalKnownSpec)) journalKnownCard

/-- THE SECOND FORM's CARD OF 'majordomolaw27.JournalLines'. -/
def journalLinesUptoCard : Claim7 := { stood := { row := journalLinesUptoRow, standIns := [], harness := (true, "833221419be538dff2941889cb2dfea4c9aa642cb01d1021bec542105247472c"), looks := true }, kinds := [], alts := [], laidByText := true, laidKinds := [.data, .data, .data, .data, .sentinel, .sentinel, .widerDeep, .pinned], laidTests := true, laidLooks := .later }
def JournalLinesUptoCardSaid : Prop := Claim7.holds Tryz.pinned (.plain (OpenSpec.upto journalLinesSpec)) journalLinesUptoCard

/-- THE SECOND FORM's CARD OF 'majordomolaw27.JournalReads'. -/
def journalReadsUptoCard : Claim7 := { stood := { row := journalReadsUptoRow, standIns := [], harness := (true, "833221419be538dff2941889cb2dfea4c9aa642cb01d1021bec542105247472c"), looks := true }, kinds := [], alts := [], laidByText := true, laidKinds := [.data, .data, .data, .data, .sentinel, .sentinel, .widerDeep, .pinned], laidTests := true, laidLooks := .later }
def JournalReadsUptoCardSaid : Prop := Claim7.holds Tryz.pinned (.plain (OpenSpec.upto journalReadsSpec)) journalReadsUptoCard

/-- THE SECOND FORM's CARD OF 'majordomolaw27.JournalRound'. -/
def journalRoundUptoCard : Claim7 := { stood := { row := journalRoundUptoRow, standIns := [], harness := (true, "833221419be538dff2941889cb2dfea4c9aa642cb01d1021bec542105247472c"), looks := true }, kinds := [], alts := [], laidByText := true, laidKinds := [.data, .data, .data, .data, .sentinel, .sentinel, .widerDeep, .pinned], laidTests := true, laidLooks := .later }
def JournalRoundUptoCardSaid : Prop := Claim7.holds Tryz.pinned (.plain (OpenSpec.upto journalRoundSpec)) journalRoundUptoCard

/-- THE SECOND FORM's CARD OF 'majordomolaw27.JournalFronts'. -/
def journalFrontsUptoCard : Claim7 := { stood := { row := journalFrontsUptoRow, standIns := [], harness := (true, "833221419be538dff2941889cb2dfea4c9aa642cb01d1021bec542105247472c"), looks := true }, kinds := [], alts := [], laidByText := true, laidKinds := [.data, .data, .data, .data, .sentinel, .sentinel, .widerDeep, .pinned], laidTests := true, laidLooks := .later }
def JournalFrontsUptoCardSaid : Prop := Claim7.holds Tryz.pinned (.plain (OpenSpec.upto journalFrontsSpec)) journalFrontsUptoCard

/-- THE SECOND FORM's CARD OF 'majordomolaw27.JournalChanged'. -/
def journalChangedUptoCard : Claim7 := { stood := { row := journalChangedUptoRow, standIns := [], harness := (true, "833221419be538dff2941889cb2dfea4c9aa642cb01d1021bec542105247472c"), looks := true }, kinds := [], alts := [], laidByText := true, laidKinds := [.data, .data, .data, .data, .sentinel, .sentinel, .widerDeep, .pinned], laidTests := true, laidLooks := .later }
def JournalChangedUptoCardSaid : Prop := Claim7.holds Tryz.pinned (.plain (OpenSpec.upto journalChangedSpec)) journalChangedUptoCard

/-- THE SECOND FORM's CARD OF 'majordomolaw27.JournalKnown'. -/
def journalKnownUptoCard : Claim7 := { stood := { row := journalKnownUptoRow, standIns := [], harness := (true, "833221419be538dff2941889cb2dfea4c9aa642cb01d1021bec542105247472c"), looks := true }, kinds := [], alts := [], laidByText := true, laidKinds := [.data, .data, .data, .data, .sentinel, .sentinel, .widerDeep, .pinned], laidTests := true, laidLooks := .later }
def JournalKnownUptoCardSaid : Prop := Claim7.holds Tryz.pinned (.plain (OpenSpec.upto journalKnownSpec)) journalKnownUptoCard
end Rows
end Go.Proofs.YtpaoeeamlinaaaaGreatDoor
