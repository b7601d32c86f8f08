/-
  NARROWER THAN 'FOR EVERY INPUT', by the rows' own cells (each row's printed sentence says how): SyntaxParses: laid · SyntaxPrints: loops, laid · SyntaxRound: loops, laid · SyntaxFixed: laid · SyntaxStable: laid · SyntaxJoins: laid · SyntaxKnown: laid.
  DERIVED. THE GIVEN ROWS OF THIS SEAT. 7 by the template 'for every input the law returns true; each argument reads behind the call as it read before'; 0 by the template 'total and deterministic' (their statements: YtganlldidjbpiaaGreatDoorTotals.lean).
  GIVEN WITH THE SEED: the statements are not yours to turn. If you find one false, say at which input.
  Laid BY PROGRAM, IN A SANDBOX (cutbox-rows.mjs): the forced cells as the released guide's own fill.sh prints them over the translation 0256efbd2bdc125a… (all of the seat's roots in one cut). By AI agents, Wed Nov 11 2026. No macro, syntax, notation, axiom, sorry.
-/
import Derived.Test.YtganlldidjbpiaaGreatDoorChecked
import GoSem.Claim
import GoSem.ClaimJoined
import GoSem.ClaimMapViews
import Derived.JoinedTies
import Derived.KernelRfl
namespace Go.Proofs.YtganlldidjbpiaaGreatDoor
/- THE CELL 'sum', in the pinned program and in every row, IS THE sha256 OF THE DUMP (.gsa) THAT YtganlldidjbpiaaGreatDoorProg.lean LOADS. Nothing in Lean hashes anything: it is a label: what it is worth is what the hold of that sum in a sandbox is worth. -/
noncomputable def Tryz.pinned : Pinned := { name := "ytganlldidjbpiaagreatdoor", sum := "0256efbd2bdc125ad17caa3de145d33adb048245c3caf81738bd3ec7ed69f6b6", checked := Tryz.checked }
namespace Rows
def none {H : Type} : Left H := { results := [], args := [] }

/- WHAT THE LISTED PACKAGE-LEVEL VARIABLES READ AS WHEN THE CALL BEGINS. Each datum BY PROGRAM (the guide's laid-datum.mjs) off the statement by which the dump's own 'gosem.cut.vars' lays the variable. In a bare row this is a premise. The card (YtganlldidjbpiaaGreatDoorCards.lean) ties it to the program's text. -/
def laid_math_bits_deBruijn32tab {H : Type} : DataW H := .agg [.lit (.int .u8 0), .lit (.int .u8 1), .lit (.int .u8 28), .lit (.int .u8 2), .lit (.int .u8 29), .lit (.int .u8 14), .lit (.int .u8 24), .lit (.int .u8 3), .lit (.int .u8 30), .lit (.int .u8 22), .lit (.int .u8 20), .lit (.int .u8 15), .lit (.int .u8 25), .lit (.int .u8 17), .lit (.int .u8 4), .lit (.int .u8 8), .lit (.int .u8 31), .lit (.int .u8 27), .lit (.int .u8 13), .lit (.int .u8 23), .lit (.int .u8 21), .lit (.int .u8 19), .lit (.int .u8 16), .lit (.int .u8 7), .lit (.int .u8 26), .lit (.int .u8 12), .lit (.int .u8 18), .lit (.int .u8 6), .lit (.int .u8 11), .lit (.int .u8 5), .lit (.int .u8 10), .lit (.int .u8 9)]
def laid_math_bits_deBruijn64tab {H : Type} : DataW H := .agg [.lit (.int .u8 0), .lit (.int .u8 1), .lit (.int .u8 56), .lit (.int .u8 2), .lit (.int .u8 57), .lit (.int .u8 49), .lit (.int .u8 28), .lit (.int .u8 3), .lit (.int .u8 61), .lit (.int .u8 58), .lit (.int .u8 42), .lit (.int .u8 50), .lit (.int .u8 38), .lit (.int .u8 29), .lit (.int .u8 17), .lit (.int .u8 4), .lit (.int .u8 62), .lit (.int .u8 47), .lit (.int .u8 59), .lit (.int .u8 36), .lit (.int .u8 45), .lit (.int .u8 43), .lit (.int .u8 51), .lit (.int .u8 22), .lit (.int .u8 53), .lit (.int .u8 39), .lit (.int .u8 33), .lit (.int .u8 30), .lit (.int .u8 24), .lit (.int .u8 18), .lit (.int .u8 12), .lit (.int .u8 5), .lit (.int .u8 63), .lit (.int .u8 55), .lit (.int .u8 48), .lit (.int .u8 27), .lit (.int .u8 60), .lit (.int .u8 41), .lit (.int .u8 37), .lit (.int .u8 16), .lit (.int .u8 46), .lit (.int .u8 35), .lit (.int .u8 44), .lit (.int .u8 21), .lit (.int .u8 52), .lit (.int .u8 32), .lit (.int .u8 23), .lit (.int .u8 11), .lit (.int .u8 54), .lit (.int .u8 26), .lit (.int .u8 40), .lit (.int .u8 15), .lit (.int .u8 34), .lit (.int .u8 20), .lit (.int .u8 31), .lit (.int .u8 10), .lit (.int .u8 25), .lit (.int .u8 14), .lit (.int .u8 19), .lit (.int .u8 9), .lit (.int .u8 13), .lit (.int .u8 8), .lit (.int .u8 7), .lit (.int .u8 6)]
def laid_internal_strconv_uint64pow10 {H : Type} : DataW H := .agg [.lit (.int .u64 1), .lit (.int .u64 10), .lit (.int .u64 100), .lit (.int .u64 1000), .lit (.int .u64 10000), .lit (.int .u64 100000), .lit (.int .u64 1000000), .lit (.int .u64 10000000), .lit (.int .u64 100000000), .lit (.int .u64 1000000000), .lit (.int .u64 10000000000), .lit (.int .u64 100000000000), .lit (.int .u64 1000000000000), .lit (.int .u64 10000000000000), .lit (.int .u64 100000000000000), .lit (.int .u64 1000000000000000), .lit (.int .u64 10000000000000000), .lit (.int .u64 100000000000000000), .lit (.int .u64 1000000000000000000), .lit (.int .u64 10000000000000000000)]
def laid_strconv_ErrRange {H : Type} : DataW H := .iface "*errors.errorString" (.ptr (.agg [.lit (.string [118, 97, 108, 117, 101, 32, 111, 117, 116, 32, 111, 102, 32, 114, 97, 110, 103, 101])]))
def laid_strconv_ErrSyntax {H : Type} : DataW H := .iface "*errors.errorString" (.ptr (.agg [.lit (.string [105, 110, 118, 97, 108, 105, 100, 32, 115, 121, 110, 116, 97, 120])]))
def laid_majordomo_syntax_words {H : Type} : DataW H := .slice [.lit (.string [115, 101, 114, 118, 105, 99, 101]), .lit (.string [119, 105, 110, 100, 111, 119]), .lit (.string [97, 112, 112, 114, 111, 118, 101]), .lit (.string [98, 108, 97, 115, 116]), .lit (.string [99, 97, 112]), .lit (.string [99, 111, 114, 101, 115]), .lit (.string [114, 101, 112, 108, 105, 99, 97, 115]), .lit (.string [108, 101, 97, 115, 116]), .lit (.string [115, 112, 114, 101, 97, 100]), .lit (.string [97, 112, 97, 114, 116]), .lit (.string [110, 101, 97, 114]), .lit (.string [102, 105, 114, 109, 119, 97, 114, 101]), .lit (.string [102, 114, 111, 109]), .lit (.string [116, 111]), .lit (.string [97, 116]), .lit (.string [112, 101, 114]), .lit (.string [119, 105, 116, 104, 105, 110]), .lit (.string [104, 111, 115, 116]), .lit (.string [114, 97, 99, 107]), .lit (.string [114, 111, 119]), .lit (.string [102, 101, 101, 100]), .lit (.string [108, 111, 111, 112])] []
def laid_majordomo_syntax_scopes {H : Type} : DataW H := .slice [.lit (.string [104, 111, 115, 116]), .lit (.string [114, 97, 99, 107]), .lit (.string [114, 111, 119]), .lit (.string [102, 101, 101, 100]), .lit (.string [108, 111, 111, 112])] []
def laid_majordomo_syntax_domains {H : Type} : DataW H := .slice [.lit (.int .u8 1), .lit (.int .u8 2), .lit (.int .u8 3), .lit (.int .u8 4), .lit (.int .u8 5)] []

/-- 'majordomolaw02.SyntaxParses': WHATEVER THE INPUT: true; the input reads as it did. -/
def syntaxParsesSpec : ChangeSpec := { name := "syntaxParses", fn := fun _ => fun
  | [d] => { results := [.lit (.bool true)], args := [d] }
  | _ => none }
def syntaxParsesRow : OpenClaim := { program := "ytganlldidjbpiaagreatdoor", sum := "0256efbd2bdc125ad17caa3de145d33adb048245c3caf81738bd3ec7ed69f6b6", func := "majordomo/majordomolaw02.SyntaxParses", spec := "syntaxParses", inPlace := ["internal/bytealg.IndexByteString", "internal/abi.NoEscape", "internal/bytealg.MakeNoZero"], unfollowed := true, recurses := true, named := ["strconv.ErrSyntax", "strconv.ErrRange", "internal/strconv.uint64pow10", "math/bits.deBruijn32tab", "math/bits.deBruijn64tab", "majordomo/syntax.words", "majordomo/syntax.domains", "majordomo/syntax.scopes"], apart := false, laid := [("math/bits.deBruijn32tab", laid_math_bits_deBruijn32tab), ("math/bits.deBruijn64tab", laid_math_bits_deBruijn64tab), ("internal/strconv.uint64pow10", laid_internal_strconv_uint64pow10), ("strconv.ErrRange", laid_strconv_ErrRange), ("strconv.ErrSyntax", laid_strconv_ErrSyntax), ("majordomo/syntax.words", laid_majordomo_syntax_words), ("majordomo/syntax.scopes", laid_majordomo_syntax_scopes), ("majordomo/syntax.domains", laid_majordomo_syntax_domains)] }
def SyntaxParsesSaid : Prop := syntaxParsesRow.holds Tryz.pinned (OpenSpec.ofChange syntaxParsesSpec)

/-- ITS FALSE NEIGHBOUR: 'it returns false'. Refute it at one input. -/
def syntaxParsesWrong : ChangeSpec := { name := "syntaxParses", fn := fun _ => fun
  | [d] => { results := [.lit (.bool false)], args := [d] }
  | _ => none }
def SyntaxParsesWrongFalsely : Prop := syntaxParsesRow.holds Tryz.pinned (OpenSpec.ofChange syntaxParsesWrong)

/-- 'majordomolaw02.SyntaxPrints': WHATEVER THE INPUT: true; the input reads as it did. -/
def syntaxPrintsSpec : ChangeSpec := { name := "syntaxPrints", fn := fun _ => fun
  | [d1, d2] => { results := [.lit (.bool true)], args := [d1, d2] }
  | _ => none }
def syntaxPrintsRow : OpenClaim := { program := "ytganlldidjbpiaagreatdoor", sum := "0256efbd2bdc125ad17caa3de145d33adb048245c3caf81738bd3ec7ed69f6b6", func := "majordomo/majordomolaw02.SyntaxPrints", spec := "syntaxPrints", inPlace := ["internal/bytealg.IndexByteString", "internal/abi.NoEscape", "internal/bytealg.MakeNoZero"], unfollowed := true, recurses := true, named := ["strconv.ErrSyntax", "strconv.ErrRange", "internal/strconv.uint64pow10", "math/bits.deBruijn32tab", "math/bits.deBruijn64tab", "majordomo/syntax.words", "majordomo/syntax.domains", "majordomo/syntax.scopes"], loops := true, apart := false, laid := [("math/bits.deBruijn32tab", laid_math_bits_deBruijn32tab), ("math/bits.deBruijn64tab", laid_math_bits_deBruijn64tab), ("internal/strconv.uint64pow10", laid_internal_strconv_uint64pow10), ("strconv.ErrRange", laid_strconv_ErrRange), ("strconv.ErrSyntax", laid_strconv_ErrSyntax), ("majordomo/syntax.words", laid_majordomo_syntax_words), ("majordomo/syntax.scopes", laid_majordomo_syntax_scopes), ("majordomo/syntax.domains", laid_majordomo_syntax_domains)] }
def SyntaxPrintsSaid : Prop := syntaxPrintsRow.holds Tryz.pinned (OpenSpec.ofChange syntaxPrintsSpec)

/-- ITS FALSE NEIGHBOUR: 'it returns false'. Refute it at one input. -/
def syntaxPrintsWrong : ChangeSpec := { name := "syntaxPrints", fn := fun _ => fun
  | [d1, d2] => { results := [.lit (.bool false)], args := [d1, d2] }
  | _ => none }
def SyntaxPrintsWrongFalsely : Prop := syntaxPrintsRow.holds Tryz.pinned (OpenSpec.ofChange syntaxPrintsWrong)

/-- 'majordomolaw02.SyntaxRound': WHATEVER THE INPUT: true; the input reads as it did. -/
def syntaxRoundSpec : ChangeSpec := { name := "syntaxRound", fn := fun _ => fun
  | [d] => { results := [.lit (.bool true)], args := [d] }
  | _ => none }
def syntaxRoundRow : OpenClaim := { program := "ytganlldidjbpiaagreatdoor", sum := "0256efbd2bdc125ad17caa3de145d33adb048245c3caf81738bd3ec7ed69f6b6", func := "majordomo/majordomolaw02.SyntaxRound", spec := "syntaxRound", inPlace := ["internal/bytealg.IndexByteString", "internal/abi.NoEscape", "internal/bytealg.MakeNoZero"], unfollowed := true, recurses := true, named := ["strconv.ErrSyntax", "strconv.ErrRange", "internal/strconv.uint64pow10", "math/bits.deBruijn32tab", "math/bits.deBruijn64tab", "majordomo/syntax.words", "majordomo/syntax.domains", "majordomo/syntax.scopes"], loops := true, apart := false, laid := [("math/bits.deBruijn32tab", laid_math_bits_deBruijn32tab), ("math/bits.deBruijn64tab", laid_math_bits_deBruijn64tab), ("internal/strconv.uint64pow10", laid_internal_strconv_uint64pow10), ("strconv.ErrRange", laid_strconv_ErrRange), ("strconv.ErrSyntax", laid_strconv_ErrSyntax), ("majordomo/syntax.words", laid_majordomo_syntax_words), ("majordomo/syntax.scopes", laid_majordomo_syntax_scopes), ("majordomo/syntax.domains", laid_majordomo_syntax_domains)] }
def SyntaxRoundSaid : Prop := syntaxRoundRow.holds Tryz.pinned (OpenSpec.ofChange syntaxRoundSpec)

/-- ITS FALSE NEIGHBOUR: 'it returns false'. Refute it at one input. -/
def syntaxRoundWrong : ChangeSpec := { name := "syntaxRound", fn := fun _ => fun
  | [d] => { results := [.lit (.bool false)], args := [d] }
  | _ => none }
def SyntaxRoundWrongFalsely : Prop := syntaxRoundRow.holds Tryz.pinned (OpenSpec.ofChange syntaxRoundWrong)

/-- 'majordomolaw02.SyntaxFixed': WHATEVER THE INPUT: true; the input reads as it did. -/
def syntaxFixedSpec : ChangeSpec := { name := "syntaxFixed", fn := fun _ => fun
  | [d] => { results := [.lit (.bool true)], args := [d] }
  | _ => none }
def syntaxFixedRow : OpenClaim := { program := "ytganlldidjbpiaagreatdoor", sum := "0256efbd2bdc125ad17caa3de145d33adb048245c3caf81738bd3ec7ed69f6b6", func := "majordomo/majordomolaw02.SyntaxFixed", spec := "syntaxFixed", inPlace := ["internal/bytealg.IndexByteString", "internal/abi.NoEscape", "internal/bytealg.MakeNoZero"], unfollowed := true, recurses := true, named := ["strconv.ErrSyntax", "strconv.ErrRange", "internal/strconv.uint64pow10", "math/bits.deBruijn32tab", "math/bits.deBruijn64tab", "majordomo/syntax.words", "majordomo/syntax.domains", "majordomo/syntax.scopes"], apart := false, laid := [("math/bits.deBruijn32tab", laid_math_bits_deBruijn32tab), ("math/bits.deBruijn64tab", laid_math_bits_deBruijn64tab), ("internal/strconv.uint64pow10", laid_internal_strconv_uint64pow10), ("strconv.ErrRange", laid_strconv_ErrRange), ("strconv.ErrSyntax", laid_strconv_ErrSyntax), ("majordomo/syntax.words", laid_majordomo_syntax_words), ("majordomo/syntax.scopes", laid_majordomo_syntax_scopes), ("majordomo/syntax.domains", laid_majordomo_syntax_domains)] }
def SyntaxFixedSaid : Prop := syntaxFixedRow.holds Tryz.pinned (OpenSpec.ofChange syntaxFixedSpec)

/-- ITS FALSE NEIGHBOUR: 'it returns false'. Refute it at one input. -/
def syntaxFixedWrong : ChangeSpec := { name := "syntaxFixed", fn := fun _ => fun
  | [d] => { results := [.lit (.bool false)], args := [d] }
  | _ => none }
def SyntaxFixedWrongFalsely : Prop := syntaxFixedRow.holds Tryz.pinned (OpenSpec.ofChange syntaxFixedWrong)

/-- 'majordomolaw02.SyntaxStable': WHATEVER THE INPUT: true; the input reads as it did. -/
def syntaxStableSpec : ChangeSpec := { name := "syntaxStable", fn := fun _ => fun
  | [d1, d2] => { results := [.lit (.bool true)], args := [d1, d2] }
  | _ => none }
def syntaxStableRow : OpenClaim := { program := "ytganlldidjbpiaagreatdoor", sum := "0256efbd2bdc125ad17caa3de145d33adb048245c3caf81738bd3ec7ed69f6b6", func := "majordomo/majordomolaw02.SyntaxStable", spec := "syntaxStable", inPlace := ["internal/bytealg.IndexByteString", "internal/abi.NoEscape", "internal/bytealg.MakeNoZero"], unfollowed := true, recurses := true, named := ["strconv.ErrSyntax", "strconv.ErrRange", "internal/strconv.uint64pow10", "math/bits.deBruijn32tab", "math/bits.deBruijn64tab", "majordomo/syntax.words", "majordomo/syntax.domains", "majordomo/syntax.scopes"], apart := false, laid := [("math/bits.deBruijn32tab", laid_math_bits_deBruijn32tab), ("math/bits.deBruijn64tab", laid_math_bits_deBruijn64tab), ("internal/strconv.uint64pow10", laid_internal_strconv_uint64pow10), ("strconv.ErrRange", laid_strconv_ErrRange), ("strconv.ErrSyntax", laid_strconv_ErrSyntax), ("majordomo/syntax.words", laid_majordomo_syntax_words), ("majordomo/syntax.scopes", laid_majordomo_syntax_scopes), ("majordomo/syntax.domains", laid_majordomo_syntax_domains)] }
def SyntaxStableSaid : Prop := syntaxStableRow.holds Tryz.pinned (OpenSpec.ofChange syntaxStableSpec)

/-- ITS FALSE NEIGHBOUR: 'it returns false'. Refute it at one input. -/
def syntaxStableWrong : ChangeSpec := { name := "syntaxStable", fn := fun _ => fun
  | [d1, d2] => { results := [.lit (.bool false)], args := [d1, d2] }
  | _ => none }
def SyntaxStableWrongFalsely : Prop := syntaxStableRow.holds Tryz.pinned (OpenSpec.ofChange syntaxStableWrong)

/-- 'majordomolaw02.SyntaxJoins': WHATEVER THE INPUT: true; the input reads as it did. -/
def syntaxJoinsSpec : ChangeSpec := { name := "syntaxJoins", fn := fun _ => fun
  | [d1, d2] => { results := [.lit (.bool true)], args := [d1, d2] }
  | _ => none }
def syntaxJoinsRow : OpenClaim := { program := "ytganlldidjbpiaagreatdoor", sum := "0256efbd2bdc125ad17caa3de145d33adb048245c3caf81738bd3ec7ed69f6b6", func := "majordomo/majordomolaw02.SyntaxJoins", spec := "syntaxJoins", inPlace := ["internal/bytealg.IndexByteString", "internal/abi.NoEscape", "internal/bytealg.MakeNoZero"], unfollowed := true, recurses := true, named := ["strconv.ErrSyntax", "strconv.ErrRange", "internal/strconv.uint64pow10", "math/bits.deBruijn32tab", "math/bits.deBruijn64tab", "majordomo/syntax.words", "majordomo/syntax.domains", "majordomo/syntax.scopes"], apart := false, laid := [("math/bits.deBruijn32tab", laid_math_bits_deBruijn32tab), ("math/bits.deBruijn64tab", laid_math_bits_deBruijn64tab), ("internal/strconv.uint64pow10", laid_internal_strconv_uint64pow10), ("strconv.ErrRange", laid_strconv_ErrRange), ("strconv.ErrSyntax", laid_strconv_ErrSyntax), ("majordomo/syntax.words", laid_majordomo_syntax_words), ("majordomo/syntax.scopes", laid_majordomo_syntax_scopes), ("majordomo/syntax.domains", laid_majordomo_syntax_domains)] }
def SyntaxJoinsSaid : Prop := syntaxJoinsRow.holds Tryz.pinned (OpenSpec.ofChange syntaxJoinsSpec)

/-- ITS FALSE NEIGHBOUR: 'it returns false'. Refute it at one input. -/
def syntaxJoinsWrong : ChangeSpec := { name := "syntaxJoins", fn := fun _ => fun
  | [d1, d2] => { results := [.lit (.bool false)], args := [d1, d2] }
  | _ => none }
def SyntaxJoinsWrongFalsely : Prop := syntaxJoinsRow.holds Tryz.pinned (OpenSpec.ofChange syntaxJoinsWrong)

/-- 'majordomolaw02.SyntaxKnown': WHATEVER THE INPUT: true; the input reads as it did. -/
def syntaxKnownSpec : ChangeSpec := { name := "syntaxKnown", fn := fun _ => fun
  | [] => { results := [.lit (.bool true)], args := [] }
  | _ => none }
def syntaxKnownRow : OpenClaim := { program := "ytganlldidjbpiaagreatdoor", sum := "0256efbd2bdc125ad17caa3de145d33adb048245c3caf81738bd3ec7ed69f6b6", func := "majordomo/majordomolaw02.SyntaxKnown", spec := "syntaxKnown", inPlace := ["internal/bytealg.IndexByteString", "internal/abi.NoEscape", "internal/bytealg.MakeNoZero"], unfollowed := true, recurses := true, named := ["strconv.ErrSyntax", "strconv.ErrRange", "internal/strconv.uint64pow10", "math/bits.deBruijn32tab", "math/bits.deBruijn64tab", "majordomo/syntax.words", "majordomo/syntax.domains", "majordomo/syntax.scopes"], apart := false, laid := [("math/bits.deBruijn32tab", laid_math_bits_deBruijn32tab), ("math/bits.deBruijn64tab", laid_math_bits_deBruijn64tab), ("internal/strconv.uint64pow10", laid_internal_strconv_uint64pow10), ("strconv.ErrRange", laid_strconv_ErrRange), ("strconv.ErrSyntax", laid_strconv_ErrSyntax), ("majordomo/syntax.words", laid_majordomo_syntax_words), ("majordomo/syntax.scopes", laid_majordomo_syntax_scopes), ("majordomo/syntax.domains", laid_majordomo_syntax_domains)] }
def SyntaxKnownSaid : Prop := syntaxKnownRow.holds Tryz.pinned (OpenSpec.ofChange syntaxKnownSpec)

/-- ITS FALSE NEIGHBOUR: 'it returns false'. Refute it at one input. -/
def syntaxKnownWrong : ChangeSpec := { name := "syntaxKnown", fn := fun _ => fun
  | [] => { results := [.lit (.bool false)], args := [] }
  | _ => none }
def SyntaxKnownWrongFalsely : Prop := syntaxKnownRow.holds Tryz.pinned (OpenSpec.ofChange syntaxKnownWrong)

/- THE SECOND FORM. 'bulk': how many values and letters a reading holds, each counted each time it is reached (what is shared counts as often as it is met; a slice's spare places count too). A statement '..UptoSaid' is the law's where the arguments, and the package variables that the reading takes, are together of bulk at most 1048576: NARROWER than '..Said'. Prove '..Said' where nothing that the law and all that it calls make is longer than what came in: it says more and counts as full. Else prove '..UptoSaid'. A law counts once. -/
mutual
def uptoBulk {H : Type} : DataW H → Nat
  | .lit (.string bytes) => bytes.length + 1
  | .lit _ => 1
  | .nil => 1
  | .ptr d => uptoBulk d + 1
  | .slice elems spare => uptoBulkAll elems + uptoBulkAll spare + 1
  | .agg parts => uptoBulkAll parts + 1
  | .iface _ d => uptoBulk d + 1
  | .map entries => uptoBulkEntries entries + 1
  | .held _ => 1
def uptoBulkAll {H : Type} : List (DataW H) → Nat
  | [] => 0
  | d :: r => uptoBulk d + uptoBulkAll r
def uptoBulkEntries {H : Type} : List (Lit × DataW H) → Nat
  | [] => 0
  | x :: r => uptoBulkEntry x + uptoBulkEntries r
def uptoBulkEntry {H : Type} : Lit × DataW H → Nat
  | (.string bytes, d) => bytes.length + uptoBulk d + 1
  | (_, d) => uptoBulk d + 1
 end
def uptoSmall : (H : Type) → List (DataW H) → Bool := fun _ ds => decide (uptoBulkAll ds ≤ 1048576)
def OpenSpec.upto (s : _root_.Go.ChangeSpec) : _root_.Go.OpenSpec := { _root_.Go.OpenSpec.ofChange s with cond := some uptoSmall }

/-- 'majordomolaw02.SyntaxParses', WHERE WHAT IT READS IS OF BULK AT MOST 1048576: true; the input reads as it did. -/
def syntaxParsesUptoRow : OpenClaim := { program := "ytganlldidjbpiaagreatdoor", sum := "0256efbd2bdc125ad17caa3de145d33adb048245c3caf81738bd3ec7ed69f6b6", func := "majordomo/majordomolaw02.SyntaxParses", spec := "syntaxParses", inPlace := ["internal/bytealg.IndexByteString", "internal/abi.NoEscape", "internal/bytealg.MakeNoZero"], unfollowed := true, recurses := true, named := ["strconv.ErrSyntax", "strconv.ErrRange", "internal/strconv.uint64pow10", "math/bits.deBruijn32tab", "math/bits.deBruijn64tab", "majordomo/syntax.words", "majordomo/syntax.domains", "majordomo/syntax.scopes"], apart := false, laid := [("math/bits.deBruijn32tab", laid_math_bits_deBruijn32tab), ("math/bits.deBruijn64tab", laid_math_bits_deBruijn64tab), ("internal/strconv.uint64pow10", laid_internal_strconv_uint64pow10), ("strconv.ErrRange", laid_strconv_ErrRange), ("strconv.ErrSyntax", laid_strconv_ErrSyntax), ("majordomo/syntax.words", laid_majordomo_syntax_words), ("majordomo/syntax.scopes", laid_majordomo_syntax_scopes), ("majordomo/syntax.domains", laid_majordomo_syntax_domains)], narrowed := true }
def SyntaxParsesUptoSaid : Prop := syntaxParsesUptoRow.holds Tryz.pinned (OpenSpec.upto syntaxParsesSpec)

/-- 'majordomolaw02.SyntaxPrints', WHERE WHAT IT READS IS OF BULK AT MOST 1048576: true; the input reads as it did. -/
def syntaxPrintsUptoRow : OpenClaim := { program := "ytganlldidjbpiaagreatdoor", sum := "0256efbd2bdc125ad17caa3de145d33adb048245c3caf81738bd3ec7ed69f6b6", func := "majordomo/majordomolaw02.SyntaxPrints", spec := "syntaxPrints", inPlace := ["internal/bytealg.IndexByteString", "internal/abi.NoEscape", "internal/bytealg.MakeNoZero"], unfollowed := true, recurses := true, named := ["strconv.ErrSyntax", "strconv.ErrRange", "internal/strconv.uint64pow10", "math/bits.deBruijn32tab", "math/bits.deBruijn64tab", "majordomo/syntax.words", "majordomo/syntax.domains", "majordomo/syntax.scopes"], loops := true, apart := false, laid := [("math/bits.deBruijn32tab", laid_math_bits_deBruijn32tab), ("math/bits.deBruijn64tab", laid_math_bits_deBruijn64tab), ("internal/strconv.uint64pow10", laid_internal_strconv_uint64pow10), ("strconv.ErrRange", laid_strconv_ErrRange), ("strconv.ErrSyntax", laid_strconv_ErrSyntax), ("majordomo/syntax.words", laid_majordomo_syntax_words), ("majordomo/syntax.scopes", laid_majordomo_syntax_scopes), ("majordomo/syntax.domains", laid_majordomo_syntax_domains)], narrowed := true }
def SyntaxPrintsUptoSaid : Prop := syntaxPrintsUptoRow.holds Tryz.pinned (OpenSpec.upto syntaxPrintsSpec)

/-- 'majordomolaw02.SyntaxRound', WHERE WHAT IT READS IS OF BULK AT MOST 1048576: true; the input reads as it did. -/
def syntaxRoundUptoRow : OpenClaim := { program := "ytganlldidjbpiaagreatdoor", sum := "0256efbd2bdc125ad17caa3de145d33adb048245c3caf81738bd3ec7ed69f6b6", func := "majordomo/majordomolaw02.SyntaxRound", spec := "syntaxRound", inPlace := ["internal/bytealg.IndexByteString", "internal/abi.NoEscape", "internal/bytealg.MakeNoZero"], unfollowed := true, recurses := true, named := ["strconv.ErrSyntax", "strconv.ErrRange", "internal/strconv.uint64pow10", "math/bits.deBruijn32tab", "math/bits.deBruijn64tab", "majordomo/syntax.words", "majordomo/syntax.domains", "majordomo/syntax.scopes"], loops := true, apart := false, laid := [("math/bits.deBruijn32tab", laid_math_bits_deBruijn32tab), ("math/bits.deBruijn64tab", laid_math_bits_deBruijn64tab), ("internal/strconv.uint64pow10", laid_internal_strconv_uint64pow10), ("strconv.ErrRange", laid_strconv_ErrRange), ("strconv.ErrSyntax", laid_strconv_ErrSyntax), ("majordomo/syntax.words", laid_majordomo_syntax_words), ("majordomo/syntax.scopes", laid_majordomo_syntax_scopes), ("majordomo/syntax.domains", laid_majordomo_syntax_domains)], narrowed := true }
def SyntaxRoundUptoSaid : Prop := syntaxRoundUptoRow.holds Tryz.pinned (OpenSpec.upto syntaxRoundSpec)

/-- 'majordomolaw02.SyntaxFixed', WHERE WHAT IT READS IS OF BULK AT MOST 1048576: true; the input reads as it did. -/
def syntaxFixedUptoRow : OpenClaim := { program := "ytganlldidjbpiaagreatdoor", sum := "0256efbd2bdc125ad17caa3de145d33adb048245c3caf81738bd3ec7ed69f6b6", func := "majordomo/majordomolaw02.SyntaxFixed", spec := "syntaxFixed", inPlace := ["internal/bytealg.IndexByteString", "internal/abi.NoEscape", "internal/bytealg.MakeNoZero"], unfollowed := true, recurses := true, named := ["strconv.ErrSyntax", "strconv.ErrRange", "internal/strconv.uint64pow10", "math/bits.deBruijn32tab", "math/bits.deBruijn64tab", "majordomo/syntax.words", "majordomo/syntax.domains", "majordomo/syntax.scopes"], apart := false, laid := [("math/bits.deBruijn32tab", laid_math_bits_deBruijn32tab), ("math/bits.deBruijn64tab", laid_math_bits_deBruijn64tab), ("internal/strconv.uint64pow10", laid_internal_strconv_uint64pow10), ("strconv.ErrRange", laid_strconv_ErrRange), ("strconv.ErrSyntax", laid_strconv_ErrSyntax), ("majordomo/syntax.words", laid_majordomo_syntax_words), ("majordomo/syntax.scopes", laid_majordomo_syntax_scopes), ("majordomo/syntax.domains", laid_majordomo_syntax_domains)], narrowed := true }
def SyntaxFixedUptoSaid : Prop := syntaxFixedUptoRow.holds Tryz.pinned (OpenSpec.upto syntaxFixedSpec)

/-- 'majordomolaw02.SyntaxStable', WHERE WHAT IT READS IS OF BULK AT MOST 1048576: true; the input reads as it did. -/
def syntaxStableUptoRow : OpenClaim := { program := "ytganlldidjbpiaagreatdoor", sum := "0256efbd2bdc125ad17caa3de145d33adb048245c3caf81738bd3ec7ed69f6b6", func := "majordomo/majordomolaw02.SyntaxStable", spec := "syntaxStable", inPlace := ["internal/bytealg.IndexByteString", "internal/abi.NoEscape", "internal/bytealg.MakeNoZero"], unfollowed := true, recurses := true, named := ["strconv.ErrSyntax", "strconv.ErrRange", "internal/strconv.uint64pow10", "math/bits.deBruijn32tab", "math/bits.deBruijn64tab", "majordomo/syntax.words", "majordomo/syntax.domains", "majordomo/syntax.scopes"], apart := false, laid := [("math/bits.deBruijn32tab", laid_math_bits_deBruijn32tab), ("math/bits.deBruijn64tab", laid_math_bits_deBruijn64tab), ("internal/strconv.uint64pow10", laid_internal_strconv_uint64pow10), ("strconv.ErrRange", laid_strconv_ErrRange), ("strconv.ErrSyntax", laid_strconv_ErrSyntax), ("majordomo/syntax.words", laid_majordomo_syntax_words), ("majordomo/syntax.scopes", laid_majordomo_syntax_scopes), ("majordomo/syntax.domains", laid_majordomo_syntax_domains)], narrowed := true }
def SyntaxStableUptoSaid : Prop := syntaxStableUptoRow.holds Tryz.pinned (OpenSpec.upto syntaxStableSpec)

/-- 'majordomolaw02.SyntaxJoins', WHERE WHAT IT READS IS OF BULK AT MOST 1048576: true; the input reads as it did. -/
def syntaxJoinsUptoRow : OpenClaim := { program := "ytganlldidjbpiaagreatdoor", sum := "0256efbd2bdc125ad17caa3de145d33adb048245c3caf81738bd3ec7ed69f6b6", func := "majordomo/majordomolaw02.SyntaxJoins", spec := "syntaxJoins", inPlace := ["internal/bytealg.IndexByteString", "internal/abi.NoEscape", "internal/bytealg.MakeNoZero"], unfollowed := true, recurses := true, named := ["strconv.ErrSyntax", "strconv.ErrRange", "internal/strconv.uint64pow10", "math/bits.deBruijn32tab", "math/bits.deBruijn64tab", "majordomo/syntax.words", "majordomo/syntax.domains", "majordomo/syntax.scopes"], apart := false, laid := [("math/bits.deBruijn32tab", laid_math_bits_deBruijn32tab), ("math/bits.deBruijn64tab", laid_math_bits_deBruijn64tab), ("internal/strconv.uint64pow10", laid_internal_strconv_uint64pow10), ("strconv.ErrRange", laid_strconv_ErrRange), ("strconv.ErrSyntax", laid_strconv_ErrSyntax), ("majordomo/syntax.words", laid_majordomo_syntax_words), ("majordomo/syntax.scopes", laid_majordomo_syntax_scopes), ("majordomo/syntax.domains", laid_majordomo_syntax_domains)], narrowed := true }
def SyntaxJoinsUptoSaid : Prop := syntaxJoinsUptoRow.holds Tryz.pinned (OpenSpec.upto syntaxJoinsSpec)

/-- 'majordomolaw02.SyntaxKnown', WHERE WHAT IT READS IS OF BULK AT MOST 1048576: true; the input reads as it did. -/
def syntaxKnownUptoRow : OpenClaim := { program := "ytganlldidjbpiaagreatdoor", sum := "0256efbd2bdc125ad17caa3de145d33adb048245c3caf81738bd3ec7ed69f6b6", func := "majordomo/majordomolaw02.SyntaxKnown", spec := "syntaxKnown", inPlace := ["internal/bytealg.IndexByteString", "internal/abi.NoEscape", "internal/bytealg.MakeNoZero"], unfollowed := true, recurses := true, named := ["strconv.ErrSyntax", "strconv.ErrRange", "internal/strconv.uint64pow10", "math/bits.deBruijn32tab", "math/bits.deBruijn64tab", "majordomo/syntax.words", "majordomo/syntax.domains", "majordomo/syntax.scopes"], apart := false, laid := [("math/bits.deBruijn32tab", laid_math_bits_deBruijn32tab), ("math/bits.deBruijn64tab", laid_math_bits_deBruijn64tab), ("internal/strconv.uint64pow10", laid_internal_strconv_uint64pow10), ("strconv.ErrRange", laid_strconv_ErrRange), ("strconv.ErrSyntax", laid_strconv_ErrSyntax), ("majordomo/syntax.words", laid_majordomo_syntax_words), ("majordomo/syntax.scopes", laid_majordomo_syntax_scopes), ("majordomo/syntax.domains", laid_majordomo_syntax_domains)], narrowed := true }
def SyntaxKnownUptoSaid : Prop := syntaxKnownUptoRow.holds Tryz.pinned (OpenSpec.upto syntaxKnownSpec)

end Rows
end Go.Proofs.YtganlldidjbpiaaGreatDoor
