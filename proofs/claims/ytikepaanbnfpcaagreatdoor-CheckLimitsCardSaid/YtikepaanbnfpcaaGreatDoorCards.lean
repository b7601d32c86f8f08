/-
  DERIVED. GIVEN WITH THE SEED: THE CARDS: each row of YtikepaanbnfpcaaGreatDoorRows.lean that lists a variable, with what it lists TIED to the program's text (the seventh form; the later family's looks); each row that meets fmt, with fmt's text TOLD by the authors' own Lean function (tested against real Go, not proved from fmt's source: count such statements apart). THE CARD IS WHAT COUNTS. Prove the row's statement (the work); the ties are given (YtikepaanbnfpcaaGreatDoorTie.lean); close each card by the builder's one call (the guide's Derived/Test/ToyasCard.lean, 'card_holds'). Laid BY PROGRAM, IN A SANDBOX (cutbox-door.mjs). By AI agents, Wed Nov 11 2026. No macro, syntax, notation, axiom, sorry.
-/
import Derived.Test.YtikepaanbnfpcaaGreatDoorRows
import GoSem.ClaimSeven
namespace Go.Proofs.YtikepaanbnfpcaaGreatDoor
namespace Rows

/-- THE TIED CARD OF 'majordomolaw03.CheckLimits'. -/
def checkLimitsCard : Claim7 := { stood := { row := checkLimitsRow, standIns := [], harness := (true, "afbf502c4ed3172a4608fb40ab5d30828feaf2484239064a58ac9bace9b64c07"), looks := true }, kinds := [], alts := [], laidByText := true, laidKinds := [.data, .data, .data, .handle, .sentinel, .sentinel, .widerDeep, .widerDeep], laidTests := true, laidLooks := .later }
def CheckLimitsCardSaid : Prop := Claim7.holds Tryz.pinned (.plain (OpenSpec.ofChange checkLimitsSpec)) checkLimitsCard

/-- THE TIED CARD OF 'majordomolaw03.CheckRound'. -/
def checkRoundCard : Claim7 := { stood := { row := checkRoundRow, standIns := [], harness := (true, "afbf502c4ed3172a4608fb40ab5d30828feaf2484239064a58ac9bace9b64c07"), looks := true }, kinds := [], alts := [], laidByText := true, laidKinds := [.data, .data, .data, .handle, .sentinel, .sentinel, .widerDeep, .widerDeep, .widerDeep], laidTests := true, laidLooks := .later }
def CheckRoundCardSaid : Prop := Claim7.holds Tryz.pinned (.plain (OpenSpec.ofChange checkRoundSpec)) checkRoundCard

/-- THE TIED CARD OF 'majordomolaw03.CheckChecks'. -/
def checkChecksCard : Claim7 := { stood := { row := checkChecksRow, standIns := [], harness := (true, "afbf502c4ed3172a4608fb40ab5d30828feaf2484239064a58ac9bace9b64c07"), looks := true }, kinds := [], alts := [], laidByText := true, laidKinds := [.data, .data, .data, .handle, .sentinel, .sentinel, .widerDeep, .widerDeep], laidTests := true, laidLooks := .later }
def CheckChecksCardSaid : Prop := Claim7.holds Tryz.pinned (.plain (OpenSpec.ofChange checkChecksSpec)) checkChecksCard

/-- THE TIED CARD OF 'majordomolaw03.CheckTurns'. -/
def checkTurnsCard : Claim7 := { stood := { row := checkTurnsRow, standIns := [], harness := (true, "afbf502c4ed3172a4608fb40ab5d30828feaf2484239064a58ac9bace9b64c07"), looks := true }, kinds := [], alts := [], laidByText := true, laidKinds := [.data, .data, .data, .handle, .sentinel, .sentinel, .widerDeep, .widerDeep], laidTests := true, laidLooks := .later }
def CheckTurnsCardSaid : Prop := Claim7.holds Tryz.pinned (.plain (OpenSpec.ofChange checkTurnsSpec)) checkTurnsCard

/-- THE TIED CARD OF 'majordomolaw03.CheckCounts'. -/
def checkCountsCard : Claim7 := { stood := { row := checkCountsRow, standIns := [], harness := (true, "afbf502c4ed3172a4608fb40ab5d30828feaf2484239064a58ac9bace9b64c07"), looks := true }, kinds := [], alts := [], laidByText := true, laidKinds := [.data, .data, .data, .handle, .sentinel, .sentinel, .widerDeep, .widerDeep], laidTests := true, laidLooks := .later }
def CheckCountsCardSaid : Prop := Claim7.holds Tryz.pinned (.plain (OpenSpec.ofChange checkCountsSpec)) checkCountsCard

/-- THE TIED CARD OF 'majordomolaw03.CheckKnown'. -/
def checkKnownCard : Claim7 := { stood := { row := checkKnownRow, standIns := [], harness := (true, "afbf502c4ed3172a4608fb40ab5d30828feaf2484239064a58ac9bace9b64c07"), looks := true }, kinds := [], alts := [], laidByText := true, laidKinds := [.data, .data, .data, .handle, .sentinel, .sentinel, .widerDeep, .widerDeep], laidTests := true, laidLooks := .later }
def CheckKnownCardSaid : Prop := Claim7.holds Tryz.pinned (.plain (OpenSpec.ofChange checkKnownSpec)) checkKnownCard

/-- THE TIED CARD OF 'majordomolaw03.CheckBack'. -/
def checkBackCard : Claim7 := { stood := { row := checkBackRow, standIns := [], harness := (true, "afbf502c4ed3172a4608fb40ab5d30828feaf2484239064a58ac9bace9b64c07"), looks := true }, kinds := [], alts := [], laidByText := true, laidKinds := [.data, .data, .data, .handle, .sentinel, .sentinel, .widerDeep, .widerDeep], laidTests := true, laidLooks := .later }
def CheckBackCardSaid : Prop := Claim7.holds Tryz.pinned (.plain (OpenSpec.ofChange checkBackSpec)) checkBackCard

/-- THE SECOND FORM's CARD OF 'majordomolaw03.CheckLimits'. -/
def checkLimitsUptoCard : Claim7 := { stood := { row := checkLimitsUptoRow, standIns := [], harness := (true, "afbf502c4ed3172a4608fb40ab5d30828feaf2484239064a58ac9bace9b64c07"), looks := true }, kinds := [], alts := [], laidByText := true, laidKinds := [.data, .data, .data, .handle, .sentinel, .sentinel, .widerDeep, .widerDeep], laidTests := true, laidLooks := .later }
def CheckLimitsUptoCardSaid : Prop := Claim7.holds Tryz.pinned (.plain (OpenSpec.upto checkLimitsSpec)) checkLimitsUptoCard

/-- THE SECOND FORM's CARD OF 'majordomolaw03.CheckRound'. -/
def checkRoundUptoCard : Claim7 := { stood := { row := checkRoundUptoRow, standIns := [], harness := (true, "afbf502c4ed3172a4608fb40ab5d30828feaf2484239064a58ac9bace9b64c07"), looks := true }, kinds := [], alts := [], laidByText := true, laidKinds := [.data, .data, .data, .handle, .sentinel, .sentinel, .widerDeep, .widerDeep, .widerDeep], laidTests := true, laidLooks := .later }
def CheckRoundUptoCardSaid : Prop := Claim7.holds Tryz.pinned (.plain (OpenSpec.upto checkRoundSpec)) checkRoundUptoCard

/-- THE SECOND FORM's CARD OF 'majordomolaw03.CheckChecks'. -/
def checkChecksUptoCard : Claim7 := { stood := { row := checkChecksUptoRow, standIns := [], harness := (true, "afbf502c4ed3172a4608fb40ab5d30828feaf2484239064a58ac9bace9b64c07"), looks := true }, kinds := [], alts := [], laidByText := true, laidKinds := [.data, .data, .data, .handle, .sentinel, .sentinel, .widerDeep, .widerDeep], laidTests := true, laidLooks := .later }
def CheckChecksUptoCardSaid : Prop := Claim7.holds Tryz.pinned (.plain (OpenSpec.upto checkChecksSpec)) checkChecksUptoCard

/-- THE SECOND FORM's CARD OF 'majordomolaw03.CheckTurns'. -/
def checkTurnsUptoCard : Claim7 := { stood := { row := checkTurnsUptoRow, standIns := [], harness := (true, "afbf502c4ed3172a4608fb40ab5d30828feaf2484239064a58ac9bace9b64c07"), looks := true }, kinds := [], alts := [], laidByText := true, laidKinds := [.data, .data, .data, .handle, .sentinel, .sentinel, .widerDeep, .widerDeep], laidTests := true, laidLooks := .later }
def CheckTurnsUptoCardSaid : Prop := Claim7.holds Tryz.pinned (.plain (OpenSpec.upto checkTurnsSpec)) checkTurnsUptoCard

/-- THE SECOND FORM's CARD OF 'majordomolaw03.CheckCounts'. -/
def checkCountsUptoCard : Claim7 := { stood := { row := checkCountsUptoRow, standIns := [], harness := (true, "afbf502c4ed3172a4608fb40ab5d30828feaf2484239064a58ac9bace9b64c07"), looks := true }, kinds := [], alts := [], laidByText := true, laidKinds := [.data, .data, .data, .handle, .sentinel, .sentinel, .widerDeep, .widerDeep], laidTests := true, laidLooks := .later }
def CheckCountsUptoCardSaid : Prop := Claim7.holds Tryz.pinned (.plain (OpenSpec.upto checkCountsSpec)) checkCountsUptoCard

/-- THE SECOND FORM's CARD OF 'majordomolaw03.CheckKnown'. -/
def checkKnownUptoCard : Claim7 := { stood := { row := checkKnownUptoRow, standIns := [], harness := (true, "afbf502c4ed3172a4608fb40ab5d30828feaf2484239064a58ac9bace9b64c07"), looks := true }, kinds := [], alts := [], laidByText := true, laidKinds := [.data, .data, .data, .handle, .sentinel, .sentinel, .widerDeep, .widerDeep], laidTests := true, laidLooks := .later }
def CheckKnownUptoCardSaid : Prop := Claim7.holds Tryz.pinned (.plain (OpenSpec.upto checkKnownSpec)) checkKnownUptoCard

/-- THE SECOND FORM's CARD OF 'majordomolaw03.CheckBack'. -/
def checkBackUptoCard : Claim7 := { stood := { row := checkBackUptoRow, standIns := [], harness := (true, "afbf502c4ed3172a4608fb40ab5d30828feaf2484239064a58ac9bace9b64c07"), looks := true }, kinds := [], alts := [], laidByText := true, laidKinds := [.data, .data, .data, .handle, .sentinel, .sentinel, .widerDeep, .widerDeep], laidTests := true, laidLooks := .later }
def CheckBackUptoCardSaid : Prop := Claim7.holds Tryz.pinned (.plain (OpenSpec.upto checkBackSpec)) checkBackUptoCard
end Rows
end Go.Proofs.YtikepaanbnfpcaaGreatDoor
