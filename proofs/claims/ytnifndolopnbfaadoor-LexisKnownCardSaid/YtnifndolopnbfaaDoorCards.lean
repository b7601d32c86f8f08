/-
  DERIVED. GIVEN WITH THE SEED: THE CARDS: each row of YtnifndolopnbfaaDoorRows.lean that lists a variable, with what it lists TIED to the program's text (the seventh form; the later family's looks); each row that meets fmt, with fmt's text TOLD by the authors' own Lean function (tested against real Go, not proved from fmt's source: count such statements apart). THE CARD IS WHAT COUNTS. Prove the row's statement (the work); the ties are given (YtnifndolopnbfaaDoorTie.lean); close each card by the builder's one call (the guide's Derived/Test/ToyasCard.lean, 'card_holds'). Laid BY PROGRAM, IN A SANDBOX (cutbox-door.mjs). By AI agents, Wed Nov 11 2026. No macro, syntax, notation, axiom, sorry.
-/
import Derived.Test.YtnifndolopnbfaaDoorRows
import GoSem.ClaimSeven
namespace Go.Proofs.YtnifndolopnbfaaDoor
namespace Rows

/-- THE TIED CARD OF 'majordomolaw01.LexisTokens'. -/
def lexisTokensCard : Claim7 := { stood := { row := lexisTokensRow, standIns := [], harness := (true, "b78103ba624de01786ab28947130896d9701d834785a2b13393bdd0af332fd2d"), looks := true }, kinds := [], alts := [], laidByText := true, laidKinds := [.data, .data, .data, .sentinel, .sentinel], laidTests := true, laidLooks := .later }
def LexisTokensCardSaid : Prop := Claim7.holds Tryd.pinned (.plain (OpenSpec.ofChange lexisTokensSpec)) lexisTokensCard

/-- THE TIED CARD OF 'majordomolaw01.LexisPrints'. -/
def lexisPrintsCard : Claim7 := { stood := { row := lexisPrintsRow, standIns := [], harness := (true, "b78103ba624de01786ab28947130896d9701d834785a2b13393bdd0af332fd2d"), looks := true }, kinds := [], alts := [], laidByText := true, laidKinds := [.data, .data, .data, .sentinel, .sentinel], laidTests := true, laidLooks := .later }
def LexisPrintsCardSaid : Prop := Claim7.holds Tryd.pinned (.plain (OpenSpec.ofChange lexisPrintsSpec)) lexisPrintsCard

/-- THE TIED CARD OF 'majordomolaw01.LexisRound'. -/
def lexisRoundCard : Claim7 := { stood := { row := lexisRoundRow, standIns := [], harness := (true, "b78103ba624de01786ab28947130896d9701d834785a2b13393bdd0af332fd2d"), looks := true }, kinds := [], alts := [], laidByText := true, laidKinds := [.data, .data, .data, .sentinel, .sentinel], laidTests := true, laidLooks := .later }
def LexisRoundCardSaid : Prop := Claim7.holds Tryd.pinned (.plain (OpenSpec.ofChange lexisRoundSpec)) lexisRoundCard

/-- THE TIED CARD OF 'majordomolaw01.LexisStands'. -/
def lexisStandsCard : Claim7 := { stood := { row := lexisStandsRow, standIns := [], harness := (true, "b78103ba624de01786ab28947130896d9701d834785a2b13393bdd0af332fd2d"), looks := true }, kinds := [], alts := [], laidByText := true, laidKinds := [.data, .data, .data, .sentinel, .sentinel], laidTests := true, laidLooks := .later }
def LexisStandsCardSaid : Prop := Claim7.holds Tryd.pinned (.plain (OpenSpec.ofChange lexisStandsSpec)) lexisStandsCard

/-- THE TIED CARD OF 'majordomolaw01.LexisBlanks'. -/
def lexisBlanksCard : Claim7 := { stood := { row := lexisBlanksRow, standIns := [], harness := (true, "b78103ba624de01786ab28947130896d9701d834785a2b13393bdd0af332fd2d"), looks := true }, kinds := [], alts := [], laidByText := true, laidKinds := [.data, .data, .data, .sentinel, .sentinel], laidTests := true, laidLooks := .later }
def LexisBlanksCardSaid : Prop := Claim7.holds Tryd.pinned (.plain (OpenSpec.ofChange lexisBlanksSpec)) lexisBlanksCard

/-- THE TIED CARD OF 'majordomolaw01.LexisApart'. -/
def lexisApartCard : Claim7 := { stood := { row := lexisApartRow, standIns := [], harness := (true, "b78103ba624de01786ab28947130896d9701d834785a2b13393bdd0af332fd2d"), looks := true }, kinds := [], alts := [], laidByText := true, laidKinds := [.data, .data, .data, .sentinel, .sentinel], laidTests := true, laidLooks := .later }
def LexisApartCardSaid : Prop := Claim7.holds Tryd.pinned (.plain (OpenSpec.ofChange lexisApartSpec)) lexisApartCard

/-- THE TIED CARD OF 'majordomolaw01.LexisKnown'. -/
def lexisKnownCard : Claim7 := { stood := { row := lexisKnownRow, standIns := [], harness := (true, "b78103ba624de01786ab28947130896d9701d834785a2b13393bdd0af332fd2d"), looks := true }, kinds := [], alts := [], laidByText := true, laidKinds := [.data, .data, .data, .sentinel, .sentinel], laidTests := true, laidLooks := .later }
def LexisKnownCardSaid : Prop := Claim7.holds Tryd.pinned (.plain (OpenSpec.ofChange lexisKnownSpec)) lexisKnownCard

/-- THE SECOND FORM's CARD OF 'majordomolaw01.LexisTokens'. -/
def lexisTokensUptoCard : Claim7 := { stood := { row := lexisTokensUptoRow, standIns := [], harness := (true, "b78103ba624de01786ab28947130896d9701d834785a2b13393bdd0af332fd2d"), looks := true }, kinds := [], alts := [], laidByText := true, laidKinds := [.data, .data, .data, .sentinel, .sentinel], laidTests := true, laidLooks := .later }
def LexisTokensUptoCardSaid : Prop := Claim7.holds Tryd.pinned (.plain (OpenSpec.upto lexisTokensSpec)) lexisTokensUptoCard

/-- THE SECOND FORM's CARD OF 'majordomolaw01.LexisPrints'. -/
def lexisPrintsUptoCard : Claim7 := { stood := { row := lexisPrintsUptoRow, standIns := [], harness := (true, "b78103ba624de01786ab28947130896d9701d834785a2b13393bdd0af332fd2d"), looks := true }, kinds := [], alts := [], laidByText := true, laidKinds := [.data, .data, .data, .sentinel, .sentinel], laidTests := true, laidLooks := .later }
def LexisPrintsUptoCardSaid : Prop := Claim7.holds Tryd.pinned (.plain (OpenSpec.upto lexisPrintsSpec)) lexisPrintsUptoCard

/-- THE SECOND FORM's CARD OF 'majordomolaw01.LexisRound'. -/
def lexisRoundUptoCard : Claim7 := { stood := { row := lexisRoundUptoRow, standIns := [], harness := (true, "b78103ba624de01786ab28947130896d9701d834785a2b13393bdd0af332fd2d"), looks := true }, kinds := [], alts := [], laidByText := true, laidKinds := [.data, .data, .data, .sentinel, .sentinel], laidTests := true, laidLooks := .later }
def LexisRoundUptoCardSaid : Prop := Claim7.holds Tryd.pinned (.plain (OpenSpec.upto lexisRoundSpec)) lexisRoundUptoCard

/-- THE SECOND FORM's CARD OF 'majordomolaw01.LexisStands'. -/
def lexisStandsUptoCard : Claim7 := { stood := { row := lexisStandsUptoRow, standIns := [], harness := (true, "b78103ba624de01786ab28947130896d9701d834785a2b13393bdd0af332fd2d"), looks := true }, kinds := [], alts := [], laidByText := true, laidKinds := [.data, .data, .data, .sentinel, .sentinel], laidTests := true, laidLooks := .later }
def LexisStandsUptoCardSaid : Prop := Claim7.holds Tryd.pinned (.plain (OpenSpec.upto lexisStandsSpec)) lexisStandsUptoCard

/-- THE SECOND FORM's CARD OF 'majordomolaw01.LexisBlanks'. -/
def lexisBlanksUptoCard : Claim7 := { stood := { row := lexisBlanksUptoRow, standIns := [], harness := (true, "b78103ba624de01786ab28947130896d9701d834785a2b13393bdd0af332fd2d"), looks := true }, kinds := [], alts := [], laidByText := true, laidKinds := [.data, .data, .data, .sentinel, .sentinel], laidTests := true, laidLooks := .later }
def LexisBlanksUptoCardSaid : Prop := Claim7.holds Tryd.pinned (.plain (OpenSpec.upto lexisBlanksSpec)) lexisBlanksUptoCard

/-- THE SECOND FORM's CARD OF 'majordomolaw01.LexisApart'. -/
def lexisApartUptoCard : Claim7 := { stood := { row := lexisApartUptoRow, standIns := [], harness := (true, "b78103ba624de01786ab28947130896d9701d834785a2b13393bdd0af332fd2d"), looks := true }, kinds := [], alts := [], laidByText := true, laidKinds := [.data, .data, .data, .sentinel, .sentinel], laidTests := true, laidLooks := .later }
def LexisApartUptoCardSaid : Prop := Claim7.holds Tryd.pinned (.plain (OpenSpec.upto lexisApartSpec)) lexisApartUptoCard

/-- THE SECOND FORM's CARD OF 'majordomolaw01.LexisKnown'. -/
def lexisKnownUptoCard : Claim7 := { stood := { row := lexisKnownUptoRow, standIns := [], harness := (true, "b78103ba624de01786ab28947130896d9701d834785a2b13393bdd0af332fd2d"), looks := true }, kinds := [], alts := [], laidByText := true, laidKinds := [.data, .data, .data, .sentinel, .sentinel], laidTests := true, laidLooks := .later }
def LexisKnownUptoCardSaid : Prop := Claim7.holds Tryd.pinned (.plain (OpenSpec.upto lexisKnownSpec)) lexisKnownUptoCard
end Rows
end Go.Proofs.YtnifndolopnbfaaDoor
