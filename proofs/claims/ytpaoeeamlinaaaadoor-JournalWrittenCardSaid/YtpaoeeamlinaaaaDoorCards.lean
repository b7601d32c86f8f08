/-
  DERIVED. GIVEN WITH THE SEED: THE CARDS: each row of YtpaoeeamlinaaaaDoorRows.lean that lists a variable, with what it lists TIED to the program's text (the seventh form; the later family's looks); each row that meets fmt, with fmt's text TOLD by the authors' own Lean function (tested against real Go, not proved from fmt's source: count such statements apart). THE CARD IS WHAT COUNTS. Prove the row's statement (the work); the ties are given (YtpaoeeamlinaaaaDoorTie.lean); close each card by the builder's one call (the guide's Derived/Test/ToyasCard.lean, 'card_holds'). Laid BY PROGRAM, IN A SANDBOX (cutbox-door.mjs). By AI agents, Wed Nov 11 2026. No macro, syntax, notation, axiom, sorry.
-/
import Derived.Test.YtpaoeeamlinaaaaDoorRows
import GoSem.ClaimSeven
namespace Go.Proofs.YtpaoeeamlinaaaaDoor
namespace Rows

/-- THE TIED CARD OF 'majordomolaw27.JournalWritten'. -/
def journalWrittenCard : Claim7 := { stood := { row := journalWrittenRow, standIns := [], harness := (true, "ba223cb706f8a5520c2f224cc69390ba6493110ef9a22f46f81e5a8f65940b90"), looks := true }, kinds := [], alts := [], laidByText := true, laidKinds := [.data, .data, .data, .data, .sentinel, .sentinel, .widerDeep, .pinned], laidTests := true, laidLooks := .later }
def JournalWrittenCardSaid : Prop := Claim7.holds Tryd.pinned (.plain (OpenSpec.ofChange journalWrittenSpec)) journalWrittenCard

/-- THE SECOND FORM's CARD OF 'majordomolaw27.JournalWritten'. -/
def journalWrittenUptoCard : Claim7 := { stood := { row := journalWrittenUptoRow, standIns := [], harness := (true, "ba223cb706f8a5520c2f224cc69390ba6493110ef9a22f46f81e5a8f65940b90"), looks := true }, kinds := [], alts := [], laidByText := true, laidKinds := [.data, .data, .data, .data, .sentinel, .sentinel, .widerDeep, .pinned], laidTests := true, laidLooks := .later }
def JournalWrittenUptoCardSaid : Prop := Claim7.holds Tryd.pinned (.plain (OpenSpec.upto journalWrittenSpec)) journalWrittenUptoCard
end Rows
end Go.Proofs.YtpaoeeamlinaaaaDoor
