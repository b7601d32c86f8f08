/-
  DERIVED. GIVEN WITH THE SEED: THE CARDS: each row of YtganlldidjbpiaaGreatDoorRows.lean that lists a variable, with what it lists TIED to the program's text (the seventh form; the later family's looks); each row that meets fmt, with fmt's text TOLD by the authors' own Lean function (tested against real Go, not proved from fmt's source: count such statements apart). THE CARD IS WHAT COUNTS. Prove the row's statement (the work); the ties are given (YtganlldidjbpiaaGreatDoorTie.lean); close each card by the builder's one call (the guide's Derived/Test/ToyasCard.lean, 'card_holds'). Laid BY PROGRAM, IN A SANDBOX (cutbox-door.mjs). By AI agents, Wed Nov 11 2026. No macro, syntax, notation, axiom, sorry.
-/
import Derived.Test.YtganlldidjbpiaaGreatDoorRows
import GoSem.ClaimSeven
namespace Go.Proofs.YtganlldidjbpiaaGreatDoor
namespace Rows

/-- THE TIED CARD OF 'majordomolaw02.SyntaxParses'. -/
def syntaxParsesCard : Claim7 := { stood := { row := syntaxParsesRow, standIns := [], harness := (true, "eb035dc2cc8176d7fc193c0ae9ecaca1772d1fac8e80549f0143962e364bf5fc"), looks := true }, kinds := [], alts := [], laidByText := true, laidKinds := [.data, .data, .data, .sentinel, .sentinel, .widerDeep, .widerDeep, .widerDeep], laidTests := true, laidLooks := .later }
def SyntaxParsesCardSaid : Prop := Claim7.holds Tryz.pinned (.plain (OpenSpec.ofChange syntaxParsesSpec)) syntaxParsesCard

/-- THE TIED CARD OF 'majordomolaw02.SyntaxPrints'. -/
def syntaxPrintsCard : Claim7 := { stood := { row := syntaxPrintsRow, standIns := [], harness := (true, "eb035dc2cc8176d7fc193c0ae9ecaca1772d1fac8e80549f0143962e364bf5fc"), looks := true }, kinds := [], alts := [], laidByText := true, laidKinds := [.data, .data, .data, .sentinel, .sentinel, .widerDeep, .widerDeep, .widerDeep], laidTests := true, laidLooks := .later }
def SyntaxPrintsCardSaid : Prop := Claim7.holds Tryz.pinned (.plain (OpenSpec.ofChange syntaxPrintsSpec)) syntaxPrintsCard

/-- THE TIED CARD OF 'majordomolaw02.SyntaxRound'. -/
def syntaxRoundCard : Claim7 := { stood := { row := syntaxRoundRow, standIns := [], harness := (true, "eb035dc2cc8176d7fc193c0ae9ecaca1772d1fac8e80549f0143962e364bf5fc"), looks := true }, kinds := [], alts := [], laidByText := true, laidKinds := [.data, .data, .data, .sentinel, .sentinel, .widerDeep, .widerDeep, .widerDeep], laidTests := true, laidLooks := .later }
def SyntaxRoundCardSaid : Prop := Claim7.holds Tryz.pinned (.plain (OpenSpec.ofChange syntaxRoundSpec)) syntaxRoundCard

/-- THE TIED CARD OF 'majordomolaw02.SyntaxFixed'. -/
def syntaxFixedCard : Claim7 := { stood := { row := syntaxFixedRow, standIns := [], harness := (true, "eb035dc2cc8176d7fc193c0ae9ecaca1772d1fac8e80549f0143962e364bf5fc"), looks := true }, kinds := [], alts := [], laidByText := true, laidKinds := [.data, .data, .data, .sentinel, .sentinel, .widerDeep, .widerDeep, .widerDeep], laidTests := true, laidLooks := .later }
def SyntaxFixedCardSaid : Prop := Claim7.holds Tryz.pinned (.plain (OpenSpec.ofChange syntaxFixedSpec)) syntaxFixedCard

/-- THE TIED CARD OF 'majordomolaw02.SyntaxStable'. -/
def syntaxStableCard : Claim7 := { stood := { row := syntaxStableRow, standIns := [], harness := (true, "eb035dc2cc8176d7fc193c0ae9ecaca1772d1fac8e80549f0143962e364bf5fc"), looks := true }, kinds := [], alts := [], laidByText := true, laidKinds := [.data, .data, .data, .sentinel, .sentinel, .widerDeep, .widerDeep, .widerDeep], laidTests := true, laidLooks := .later }
def SyntaxStableCardSaid : Prop := Claim7.holds Tryz.pinned (.plain (OpenSpec.ofChange syntaxStableSpec)) syntaxStableCard

/-- THE TIED CARD OF 'majordomolaw02.SyntaxJoins'. -/
def syntaxJoinsCard : Claim7 := { stood := { row := syntaxJoinsRow, standIns := [], harness := (true, "eb035dc2cc8176d7fc193c0ae9ecaca1772d1fac8e80549f0143962e364bf5fc"), looks := true }, kinds := [], alts := [], laidByText := true, laidKinds := [.data, .data, .data, .sentinel, .sentinel, .widerDeep, .widerDeep, .widerDeep], laidTests := true, laidLooks := .later }
def SyntaxJoinsCardSaid : Prop := Claim7.holds Tryz.pinned (.plain (OpenSpec.ofChange syntaxJoinsSpec)) syntaxJoinsCard

/-- THE TIED CARD OF 'majordomolaw02.SyntaxKnown'. -/
def syntaxKnownCard : Claim7 := { stood := { row := syntaxKnownRow, standIns := [], harness := (true, "eb035dc2cc8176d7fc193c0ae9ecaca1772d1fac8e80549f0143962e364bf5fc"), looks := true }, kinds := [], alts := [], laidByText := true, laidKinds := [.data, .data, .data, .sentinel, .sentinel, .widerDeep, .widerDeep, .widerDeep], laidTests := true, laidLooks := .later }
def SyntaxKnownCardSaid : Prop := Claim7.holds Tryz.pinned (.plain (OpenSpec.ofChange syntaxKnownSpec)) syntaxKnownCard

/-- THE SECOND FORM's CARD OF 'majordomolaw02.SyntaxParses'. -/
def syntaxParsesUptoCard : Claim7 := { stood := { row := syntaxParsesUptoRow, standIns := [], harness := (true, "eb035dc2cc8176d7fc193c0ae9ecaca1772d1fac8e80549f0143962e364bf5fc"), looks := true }, kinds := [], alts := [], laidByText := true, laidKinds := [.data, .data, .data, .sentinel, .sentinel, .widerDeep, .widerDeep, .widerDeep], laidTests := true, laidLooks := .later }
def SyntaxParsesUptoCardSaid : Prop := Claim7.holds Tryz.pinned (.plain (OpenSpec.upto syntaxParsesSpec)) syntaxParsesUptoCard

/-- THE SECOND FORM's CARD OF 'majordomolaw02.SyntaxPrints'. -/
def syntaxPrintsUptoCard : Claim7 := { stood := { row := syntaxPrintsUptoRow, standIns := [], harness := (true, "eb035dc2cc8176d7fc193c0ae9ecaca1772d1fac8e80549f0143962e364bf5fc"), looks := true }, kinds := [], alts := [], laidByText := true, laidKinds := [.data, .data, .data, .sentinel, .sentinel, .widerDeep, .widerDeep, .widerDeep], laidTests := true, laidLooks := .later }
def SyntaxPrintsUptoCardSaid : Prop := Claim7.holds Tryz.pinned (.plain (OpenSpec.upto syntaxPrintsSpec)) syntaxPrintsUptoCard

/-- THE SECOND FORM's CARD OF 'majordomolaw02.SyntaxRound'. -/
def syntaxRoundUptoCard : Claim7 := { stood := { row := syntaxRoundUptoRow, standIns := [], harness := (true, "eb035dc2cc8176d7fc193c0ae9ecaca1772d1fac8e80549f0143962e364bf5fc"), looks := true }, kinds := [], alts := [], laidByText := true, laidKinds := [.data, .data, .data, .sentinel, .sentinel, .widerDeep, .widerDeep, .widerDeep], laidTests := true, laidLooks := .later }
def SyntaxRoundUptoCardSaid : Prop := Claim7.holds Tryz.pinned (.plain (OpenSpec.upto syntaxRoundSpec)) syntaxRoundUptoCard

/-- THE SECOND FORM's CARD OF 'majordomolaw02.SyntaxFixed'. -/
def syntaxFixedUptoCard : Claim7 := { stood := { row := syntaxFixedUptoRow, standIns := [], harness := (true, "eb035dc2cc8176d7fc193c0ae9ecaca1772d1fac8e80549f0143962e364bf5fc"), looks := true }, kinds := [], alts := [], laidByText := true, laidKinds := [.data, .data, .data, .sentinel, .sentinel, .widerDeep, .widerDeep, .widerDeep], laidTests := true, laidLooks := .later }
def SyntaxFixedUptoCardSaid : Prop := Claim7.holds Tryz.pinned (.plain (OpenSpec.upto syntaxFixedSpec)) syntaxFixedUptoCard

/-- THE SECOND FORM's CARD OF 'majordomolaw02.SyntaxStable'. -/
def syntaxStableUptoCard : Claim7 := { stood := { row := syntaxStableUptoRow, standIns := [], harness := (true, "eb035dc2cc8176d7fc193c0ae9ecaca1772d1fac8e80549f0143962e364bf5fc"), looks := true }, kinds := [], alts := [], laidByText := true, laidKinds := [.data, .data, .data, .sentinel, .sentinel, .widerDeep, .widerDeep, .widerDeep], laidTests := true, laidLooks := .later }
def SyntaxStableUptoCardSaid : Prop := Claim7.holds Tryz.pinned (.plain (OpenSpec.upto syntaxStableSpec)) syntaxStableUptoCard

/-- THE SECOND FORM's CARD OF 'majordomolaw02.SyntaxJoins'. -/
def syntaxJoinsUptoCard : Claim7 := { stood := { row := syntaxJoinsUptoRow, standIns := [], harness := (true, "eb035dc2cc8176d7fc193c0ae9ecaca1772d1fac8e80549f0143962e364bf5fc"), looks := true }, kinds := [], alts := [], laidByText := true, laidKinds := [.data, .data, .data, .sentinel, .sentinel, .widerDeep, .widerDeep, .widerDeep], laidTests := true, laidLooks := .later }
def SyntaxJoinsUptoCardSaid : Prop := Claim7.holds Tryz.pinned (.plain (OpenSpec.upto syntaxJoinsSpec)) syntaxJoinsUptoCard

/-- THE SECOND FORM's CARD OF 'majordomolaw02.SyntaxKnown'. -/
def syntaxKnownUptoCard : Claim7 := { stood := { row := syntaxKnownUptoRow, standIns := [], harness := (true, "eb035dc2cc8176d7fc193c0ae9ecaca1772d1fac8e80549f0143962e364bf5fc"), looks := true }, kinds := [], alts := [], laidByText := true, laidKinds := [.data, .data, .data, .sentinel, .sentinel, .widerDeep, .widerDeep, .widerDeep], laidTests := true, laidLooks := .later }
def SyntaxKnownUptoCardSaid : Prop := Claim7.holds Tryz.pinned (.plain (OpenSpec.upto syntaxKnownSpec)) syntaxKnownUptoCard
end Rows
end Go.Proofs.YtganlldidjbpiaaGreatDoor
