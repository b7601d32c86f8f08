/-
  No cell of these rows narrows 'for every input' (looked for: loops, veiled, ifaces, maps, wideKeys, modest, calm, conditions, laid).
  DERIVED. THE GIVEN ROWS OF THIS SEAT. 10 by the template 'for every input the law returns true; each argument reads behind the call as it read before'; 0 by the template 'total and deterministic' (their statements: YtaojdlcailpheaaTotals.lean).
  GIVEN WITH THE SEED: the statements are not yours to turn. If you find one false, say at which input.
  Laid BY PROGRAM, IN A SANDBOX (cutbox-rows.mjs): the forced cells as the released guide's own fill.sh prints them over the translation 79123b2d0239747f… (all of the seat's roots in one cut). By AI agents, Wed Nov 11 2026. No macro, syntax, notation, axiom, sorry.
-/
import Derived.Test.YtaojdlcailpheaaChecked
import GoSem.Claim
import GoSem.ClaimJoined
import GoSem.ClaimMapViews
import Derived.JoinedTies
import Derived.KernelRfl
namespace Go.Proofs.Ytaojdlcailpheaa
/- THE CELL 'sum', in the pinned program and in every row, IS THE sha256 OF THE DUMP (.gsa) THAT YtaojdlcailpheaaProg.lean LOADS. Nothing in Lean hashes anything: it is a label: what it is worth is what the hold of that sum in a sandbox is worth. -/
noncomputable def Try.pinned : Pinned := { name := "ytaojdlcailpheaa", sum := "79123b2d0239747f88c4e3dc6a791cf43026789cf01980ac827e1d70e966816d", checked := Try.checked }
namespace Rows
def none {H : Type} : Left H := { results := [], args := [] }

/-- 'majordomolaw04.RatioMakes': WHATEVER THE INPUT: true; the input reads as it did. -/
def ratioMakesSpec : ChangeSpec := { name := "ratioMakes", fn := fun _ => fun
  | [d1, d2, d3, d4] => { results := [.lit (.bool true)], args := [d1, d2, d3, d4] }
  | _ => none }
def ratioMakesRow : OpenClaim := { program := "ytaojdlcailpheaa", sum := "79123b2d0239747f88c4e3dc6a791cf43026789cf01980ac827e1d70e966816d", func := "majordomo/majordomolaw04.RatioMakes", spec := "ratioMakes", inPlace := ["internal/bytealg.IndexByteString", "internal/bytealg.IndexString"], unfollowed := true, recurses := true, named := ["math/bits.overflowError", "internal/bytealg.MaxLen"], apart := false }
def RatioMakesSaid : Prop := ratioMakesRow.holds Try.pinned (OpenSpec.ofChange ratioMakesSpec)

/-- ITS FALSE NEIGHBOUR: 'it returns false'. Refute it at one input. -/
def ratioMakesWrong : ChangeSpec := { name := "ratioMakes", fn := fun _ => fun
  | [d1, d2, d3, d4] => { results := [.lit (.bool false)], args := [d1, d2, d3, d4] }
  | _ => none }
def RatioMakesWrongFalsely : Prop := ratioMakesRow.holds Try.pinned (OpenSpec.ofChange ratioMakesWrong)

/-- 'majordomolaw04.RatioOps': WHATEVER THE INPUT: true; the input reads as it did. -/
def ratioOpsSpec : ChangeSpec := { name := "ratioOps", fn := fun _ => fun
  | [d1, d2] => { results := [.lit (.bool true)], args := [d1, d2] }
  | _ => none }
def ratioOpsRow : OpenClaim := { program := "ytaojdlcailpheaa", sum := "79123b2d0239747f88c4e3dc6a791cf43026789cf01980ac827e1d70e966816d", func := "majordomo/majordomolaw04.RatioOps", spec := "ratioOps", inPlace := ["internal/bytealg.IndexByteString", "internal/bytealg.IndexString"], unfollowed := true, recurses := true, named := ["math/bits.overflowError", "internal/bytealg.MaxLen"], apart := false }
def RatioOpsSaid : Prop := ratioOpsRow.holds Try.pinned (OpenSpec.ofChange ratioOpsSpec)

/-- ITS FALSE NEIGHBOUR: 'it returns false'. Refute it at one input. -/
def ratioOpsWrong : ChangeSpec := { name := "ratioOps", fn := fun _ => fun
  | [d1, d2] => { results := [.lit (.bool false)], args := [d1, d2] }
  | _ => none }
def RatioOpsWrongFalsely : Prop := ratioOpsRow.holds Try.pinned (OpenSpec.ofChange ratioOpsWrong)

/-- 'majordomolaw04.RatioWhole': WHATEVER THE INPUT: true; the input reads as it did. -/
def ratioWholeSpec : ChangeSpec := { name := "ratioWhole", fn := fun _ => fun
  | [d] => { results := [.lit (.bool true)], args := [d] }
  | _ => none }
def ratioWholeRow : OpenClaim := { program := "ytaojdlcailpheaa", sum := "79123b2d0239747f88c4e3dc6a791cf43026789cf01980ac827e1d70e966816d", func := "majordomo/majordomolaw04.RatioWhole", spec := "ratioWhole", inPlace := ["internal/bytealg.IndexByteString", "internal/bytealg.IndexString"], unfollowed := true, recurses := true, named := ["math/bits.overflowError", "internal/bytealg.MaxLen"], apart := false }
def RatioWholeSaid : Prop := ratioWholeRow.holds Try.pinned (OpenSpec.ofChange ratioWholeSpec)

/-- ITS FALSE NEIGHBOUR: 'it returns false'. Refute it at one input. -/
def ratioWholeWrong : ChangeSpec := { name := "ratioWhole", fn := fun _ => fun
  | [d] => { results := [.lit (.bool false)], args := [d] }
  | _ => none }
def RatioWholeWrongFalsely : Prop := ratioWholeRow.holds Try.pinned (OpenSpec.ofChange ratioWholeWrong)

/-- 'majordomolaw04.RatioSeeks': WHATEVER THE INPUT: true; the input reads as it did. -/
def ratioSeeksSpec : ChangeSpec := { name := "ratioSeeks", fn := fun _ => fun
  | [d1, d2, d3] => { results := [.lit (.bool true)], args := [d1, d2, d3] }
  | _ => none }
def ratioSeeksRow : OpenClaim := { program := "ytaojdlcailpheaa", sum := "79123b2d0239747f88c4e3dc6a791cf43026789cf01980ac827e1d70e966816d", func := "majordomo/majordomolaw04.RatioSeeks", spec := "ratioSeeks", inPlace := ["internal/bytealg.IndexByteString", "internal/bytealg.IndexString"], unfollowed := true, recurses := true, named := ["math/bits.overflowError", "internal/bytealg.MaxLen"], apart := false }
def RatioSeeksSaid : Prop := ratioSeeksRow.holds Try.pinned (OpenSpec.ofChange ratioSeeksSpec)

/-- ITS FALSE NEIGHBOUR: 'it returns false'. Refute it at one input. -/
def ratioSeeksWrong : ChangeSpec := { name := "ratioSeeks", fn := fun _ => fun
  | [d1, d2, d3] => { results := [.lit (.bool false)], args := [d1, d2, d3] }
  | _ => none }
def RatioSeeksWrongFalsely : Prop := ratioSeeksRow.holds Try.pinned (OpenSpec.ofChange ratioSeeksWrong)

/-- 'majordomolaw04.RatioField': WHATEVER THE INPUT: true; the input reads as it did. -/
def ratioFieldSpec : ChangeSpec := { name := "ratioField", fn := fun _ => fun
  | [d] => { results := [.lit (.bool true)], args := [d] }
  | _ => none }
def ratioFieldRow : OpenClaim := { program := "ytaojdlcailpheaa", sum := "79123b2d0239747f88c4e3dc6a791cf43026789cf01980ac827e1d70e966816d", func := "majordomo/majordomolaw04.RatioField", spec := "ratioField", inPlace := ["internal/bytealg.IndexByteString", "internal/bytealg.IndexString"], unfollowed := true, recurses := true, named := ["math/bits.overflowError", "internal/bytealg.MaxLen"], apart := false }
def RatioFieldSaid : Prop := ratioFieldRow.holds Try.pinned (OpenSpec.ofChange ratioFieldSpec)

/-- ITS FALSE NEIGHBOUR: 'it returns false'. Refute it at one input. -/
def ratioFieldWrong : ChangeSpec := { name := "ratioField", fn := fun _ => fun
  | [d] => { results := [.lit (.bool false)], args := [d] }
  | _ => none }
def RatioFieldWrongFalsely : Prop := ratioFieldRow.holds Try.pinned (OpenSpec.ofChange ratioFieldWrong)

/-- 'majordomolaw04.RatioOrder': WHATEVER THE INPUT: true; the input reads as it did. -/
def ratioOrderSpec : ChangeSpec := { name := "ratioOrder", fn := fun _ => fun
  | [d] => { results := [.lit (.bool true)], args := [d] }
  | _ => none }
def ratioOrderRow : OpenClaim := { program := "ytaojdlcailpheaa", sum := "79123b2d0239747f88c4e3dc6a791cf43026789cf01980ac827e1d70e966816d", func := "majordomo/majordomolaw04.RatioOrder", spec := "ratioOrder", inPlace := ["internal/bytealg.IndexByteString", "internal/bytealg.IndexString"], unfollowed := true, recurses := true, named := ["math/bits.overflowError", "internal/bytealg.MaxLen"], apart := false }
def RatioOrderSaid : Prop := ratioOrderRow.holds Try.pinned (OpenSpec.ofChange ratioOrderSpec)

/-- ITS FALSE NEIGHBOUR: 'it returns false'. Refute it at one input. -/
def ratioOrderWrong : ChangeSpec := { name := "ratioOrder", fn := fun _ => fun
  | [d] => { results := [.lit (.bool false)], args := [d] }
  | _ => none }
def RatioOrderWrongFalsely : Prop := ratioOrderRow.holds Try.pinned (OpenSpec.ofChange ratioOrderWrong)

/-- 'majordomolaw04.RatioTexts': WHATEVER THE INPUT: true; the input reads as it did. -/
def ratioTextsSpec : ChangeSpec := { name := "ratioTexts", fn := fun _ => fun
  | [d1, d2] => { results := [.lit (.bool true)], args := [d1, d2] }
  | _ => none }
def ratioTextsRow : OpenClaim := { program := "ytaojdlcailpheaa", sum := "79123b2d0239747f88c4e3dc6a791cf43026789cf01980ac827e1d70e966816d", func := "majordomo/majordomolaw04.RatioTexts", spec := "ratioTexts", inPlace := ["internal/bytealg.IndexByteString", "internal/bytealg.IndexString"], unfollowed := true, recurses := true, named := ["math/bits.overflowError", "internal/bytealg.MaxLen"], apart := false }
def RatioTextsSaid : Prop := ratioTextsRow.holds Try.pinned (OpenSpec.ofChange ratioTextsSpec)

/-- ITS FALSE NEIGHBOUR: 'it returns false'. Refute it at one input. -/
def ratioTextsWrong : ChangeSpec := { name := "ratioTexts", fn := fun _ => fun
  | [d1, d2] => { results := [.lit (.bool false)], args := [d1, d2] }
  | _ => none }
def RatioTextsWrongFalsely : Prop := ratioTextsRow.holds Try.pinned (OpenSpec.ofChange ratioTextsWrong)

/-- 'majordomolaw04.RatioSimplest': WHATEVER THE INPUT: true; the input reads as it did. -/
def ratioSimplestSpec : ChangeSpec := { name := "ratioSimplest", fn := fun _ => fun
  | [d] => { results := [.lit (.bool true)], args := [d] }
  | _ => none }
def ratioSimplestRow : OpenClaim := { program := "ytaojdlcailpheaa", sum := "79123b2d0239747f88c4e3dc6a791cf43026789cf01980ac827e1d70e966816d", func := "majordomo/majordomolaw04.RatioSimplest", spec := "ratioSimplest", inPlace := ["internal/bytealg.IndexByteString", "internal/bytealg.IndexString"], unfollowed := true, recurses := true, named := ["math/bits.overflowError", "internal/bytealg.MaxLen"], apart := false }
def RatioSimplestSaid : Prop := ratioSimplestRow.holds Try.pinned (OpenSpec.ofChange ratioSimplestSpec)

/-- ITS FALSE NEIGHBOUR: 'it returns false'. Refute it at one input. -/
def ratioSimplestWrong : ChangeSpec := { name := "ratioSimplest", fn := fun _ => fun
  | [d] => { results := [.lit (.bool false)], args := [d] }
  | _ => none }
def RatioSimplestWrongFalsely : Prop := ratioSimplestRow.holds Try.pinned (OpenSpec.ofChange ratioSimplestWrong)

/-- 'majordomolaw04.RatioNearest': WHATEVER THE INPUT: true; the input reads as it did. -/
def ratioNearestSpec : ChangeSpec := { name := "ratioNearest", fn := fun _ => fun
  | [d1, d2, d3] => { results := [.lit (.bool true)], args := [d1, d2, d3] }
  | _ => none }
def ratioNearestRow : OpenClaim := { program := "ytaojdlcailpheaa", sum := "79123b2d0239747f88c4e3dc6a791cf43026789cf01980ac827e1d70e966816d", func := "majordomo/majordomolaw04.RatioNearest", spec := "ratioNearest", inPlace := ["internal/bytealg.IndexByteString", "internal/bytealg.IndexString"], unfollowed := true, recurses := true, named := ["math/bits.overflowError", "internal/bytealg.MaxLen"], apart := false }
def RatioNearestSaid : Prop := ratioNearestRow.holds Try.pinned (OpenSpec.ofChange ratioNearestSpec)

/-- ITS FALSE NEIGHBOUR: 'it returns false'. Refute it at one input. -/
def ratioNearestWrong : ChangeSpec := { name := "ratioNearest", fn := fun _ => fun
  | [d1, d2, d3] => { results := [.lit (.bool false)], args := [d1, d2, d3] }
  | _ => none }
def RatioNearestWrongFalsely : Prop := ratioNearestRow.holds Try.pinned (OpenSpec.ofChange ratioNearestWrong)

/-- 'majordomolaw04.RatioKnown': WHATEVER THE INPUT: true; the input reads as it did. -/
def ratioKnownSpec : ChangeSpec := { name := "ratioKnown", fn := fun _ => fun
  | [] => { results := [.lit (.bool true)], args := [] }
  | _ => none }
def ratioKnownRow : OpenClaim := { program := "ytaojdlcailpheaa", sum := "79123b2d0239747f88c4e3dc6a791cf43026789cf01980ac827e1d70e966816d", func := "majordomo/majordomolaw04.RatioKnown", spec := "ratioKnown", inPlace := ["internal/bytealg.IndexByteString", "internal/bytealg.IndexString"], unfollowed := true, recurses := true, named := ["math/bits.overflowError", "internal/bytealg.MaxLen"], apart := false }
def RatioKnownSaid : Prop := ratioKnownRow.holds Try.pinned (OpenSpec.ofChange ratioKnownSpec)

/-- ITS FALSE NEIGHBOUR: 'it returns false'. Refute it at one input. -/
def ratioKnownWrong : ChangeSpec := { name := "ratioKnown", fn := fun _ => fun
  | [] => { results := [.lit (.bool false)], args := [] }
  | _ => none }
def RatioKnownWrongFalsely : Prop := ratioKnownRow.holds Try.pinned (OpenSpec.ofChange ratioKnownWrong)

/- THE SECOND FORM. 'bulk': how many values and letters a reading holds, each counted each time it is reached (what is shared counts as often as it is met; a slice's spare places count too). A statement '..UptoSaid' is the law's where the arguments, and the package variables that the reading takes, are together of bulk at most 1048576: NARROWER than '..Said'. Prove '..Said' where nothing that the law and all that it calls make is longer than what came in: it says more and counts as full. Else prove '..UptoSaid'. A law counts once. -/
mutual
def uptoBulk {H : Type} : DataW H → Nat
  | .lit (.string bytes) => bytes.length + 1
  | .lit _ => 1
  | .nil => 1
  | .ptr d => uptoBulk d + 1
  | .slice elems spare => uptoBulkAll elems + uptoBulkAll spare + 1
  | .agg parts => uptoBulkAll parts + 1
  | .iface _ d => uptoBulk d + 1
  | .map entries => uptoBulkEntries entries + 1
  | .held _ => 1
def uptoBulkAll {H : Type} : List (DataW H) → Nat
  | [] => 0
  | d :: r => uptoBulk d + uptoBulkAll r
def uptoBulkEntries {H : Type} : List (Lit × DataW H) → Nat
  | [] => 0
  | x :: r => uptoBulkEntry x + uptoBulkEntries r
def uptoBulkEntry {H : Type} : Lit × DataW H → Nat
  | (.string bytes, d) => bytes.length + uptoBulk d + 1
  | (_, d) => uptoBulk d + 1
 end
def uptoSmall : (H : Type) → List (DataW H) → Bool := fun _ ds => decide (uptoBulkAll ds ≤ 1048576)
def OpenSpec.upto (s : _root_.Go.ChangeSpec) : _root_.Go.OpenSpec := { _root_.Go.OpenSpec.ofChange s with cond := some uptoSmall }

/-- 'majordomolaw04.RatioMakes', WHERE WHAT IT READS IS OF BULK AT MOST 1048576: true; the input reads as it did. -/
def ratioMakesUptoRow : OpenClaim := { program := "ytaojdlcailpheaa", sum := "79123b2d0239747f88c4e3dc6a791cf43026789cf01980ac827e1d70e966816d", func := "majordomo/majordomolaw04.RatioMakes", spec := "ratioMakes", inPlace := ["internal/bytealg.IndexByteString", "internal/bytealg.IndexString"], unfollowed := true, recurses := true, named := ["math/bits.overflowError", "internal/bytealg.MaxLen"], apart := false, narrowed := true }
def RatioMakesUptoSaid : Prop := ratioMakesUptoRow.holds Try.pinned (OpenSpec.upto ratioMakesSpec)

/-- 'majordomolaw04.RatioOps', WHERE WHAT IT READS IS OF BULK AT MOST 1048576: true; the input reads as it did. -/
def ratioOpsUptoRow : OpenClaim := { program := "ytaojdlcailpheaa", sum := "79123b2d0239747f88c4e3dc6a791cf43026789cf01980ac827e1d70e966816d", func := "majordomo/majordomolaw04.RatioOps", spec := "ratioOps", inPlace := ["internal/bytealg.IndexByteString", "internal/bytealg.IndexString"], unfollowed := true, recurses := true, named := ["math/bits.overflowError", "internal/bytealg.MaxLen"], apart := false, narrowed := true }
def RatioOpsUptoSaid : Prop := ratioOpsUptoRow.holds Try.pinned (OpenSpec.upto ratioOpsSpec)

/-- 'majordomolaw04.RatioWhole', WHERE WHAT IT READS IS OF BULK AT MOST 1048576: true; the input reads as it did. -/
def ratioWholeUptoRow : OpenClaim := { program := "ytaojdlcailpheaa", sum := "79123b2d0239747f88c4e3dc6a791cf43026789cf01980ac827e1d70e966816d", func := "majordomo/majordomolaw04.RatioWhole", spec := "ratioWhole", inPlace := ["internal/bytealg.IndexByteString", "internal/bytealg.IndexString"], unfollowed := true, recurses := true, named := ["math/bits.overflowError", "internal/bytealg.MaxLen"], apart := false, narrowed := true }
def RatioWholeUptoSaid : Prop := ratioWholeUptoRow.holds Try.pinned (OpenSpec.upto ratioWholeSpec)

/-- 'majordomolaw04.RatioSeeks', WHERE WHAT IT READS IS OF BULK AT MOST 1048576: true; the input reads as it did. -/
def ratioSeeksUptoRow : OpenClaim := { program := "ytaojdlcailpheaa", sum := "79123b2d0239747f88c4e3dc6a791cf43026789cf01980ac827e1d70e966816d", func := "majordomo/majordomolaw04.RatioSeeks", spec := "ratioSeeks", inPlace := ["internal/bytealg.IndexByteString", "internal/bytealg.IndexString"], unfollowed := true, recurses := true, named := ["math/bits.overflowError", "internal/bytealg.MaxLen"], apart := false, narrowed := true }
def RatioSeeksUptoSaid : Prop := ratioSeeksUptoRow.holds Try.pinned (OpenSpec.upto ratioSeeksSpec)

/-- 'majordomolaw04.RatioField', WHERE WHAT IT READS IS OF BULK AT MOST 1048576: true; the input reads as it did. -/
def ratioFieldUptoRow : OpenClaim := { program := "ytaojdlcailpheaa", sum := "79123b2d0239747f88c4e3dc6a791cf43026789cf01980ac827e1d70e966816d", func := "majordomo/majordomolaw04.RatioField", spec := "ratioField", inPlace := ["internal/bytealg.IndexByteString", "internal/bytealg.IndexString"], unfollowed := true, recurses := true, named := ["math/bits.overflowError", "internal/bytealg.MaxLen"], apart := false, narrowed := true }
def RatioFieldUptoSaid : Prop := ratioFieldUptoRow.holds Try.pinned (OpenSpec.upto ratioFieldSpec)

/-- 'majordomolaw04.RatioOrder', WHERE WHAT IT READS IS OF BULK AT MOST 1048576: true; the input reads as it did. -/
def ratioOrderUptoRow : OpenClaim := { program := "ytaojdlcailpheaa", sum := "79123b2d0239747f88c4e3dc6a791cf43026789cf01980ac827e1d70e966816d", func := "majordomo/majordomolaw04.RatioOrder", spec := "ratioOrder", inPlace := ["internal/bytealg.IndexByteString", "internal/bytealg.IndexString"], unfollowed := true, recurses := true, named := ["math/bits.overflowError", "internal/bytealg.MaxLen"], apart := false, narrowed := true }
def RatioOrderUptoSaid : Prop := ratioOrderUptoRow.holds Try.pinned (OpenSpec.upto ratioOrderSpec)

/-- 'majordomolaw04.RatioTexts', WHERE WHAT IT READS IS OF BULK AT MOST 1048576: true; the input reads as it did. -/
def ratioTextsUptoRow : OpenClaim := { program := "ytaojdlcailpheaa", sum := "79123b2d0239747f88c4e3dc6a791cf43026789cf01980ac827e1d70e966816d", func := "majordomo/majordomolaw04.RatioTexts", spec := "ratioTexts", inPlace := ["internal/bytealg.IndexByteString", "internal/bytealg.IndexString"], unfollowed := true, recurses := true, named := ["math/bits.overflowError", "internal/bytealg.MaxLen"], apart := false, narrowed := true }
def RatioTextsUptoSaid : Prop := ratioTextsUptoRow.holds Try.pinned (OpenSpec.upto ratioTextsSpec)

/-- 'majordomolaw04.RatioSimplest', WHERE WHAT IT READS IS OF BULK AT MOST 1048576: true; the input reads as it did. -/
def ratioSimplestUptoRow : OpenClaim := { program := "ytaojdlcailpheaa", sum := "79123b2d0239747f88c4e3dc6a791cf43026789cf01980ac827e1d70e966816d", func := "majordomo/majordomolaw04.RatioSimplest", spec := "ratioSimplest", inPlace := ["internal/bytealg.IndexByteString", "internal/bytealg.IndexString"], unfollowed := true, recurses := true, named := ["math/bits.overflowError", "internal/bytealg.MaxLen"], apart := false, narrowed := true }
def RatioSimplestUptoSaid : Prop := ratioSimplestUptoRow.holds Try.pinned (OpenSpec.upto ratioSimplestSpec)

/-- 'majordomolaw04.RatioNearest', WHERE WHAT IT READS IS OF BULK AT MOST 1048576: true; the input reads as it did. -/
def ratioNearestUptoRow : OpenClaim := { program := "ytaojdlcailpheaa", sum := "79123b2d0239747f88c4e3dc6a791cf43026789cf01980ac827e1d70e966816d", func := "majordomo/majordomolaw04.RatioNearest", spec := "ratioNearest", inPlace := ["internal/bytealg.IndexByteString", "internal/bytealg.IndexString"], unfollowed := true, recurses := true, named := ["math/bits.overflowError", "internal/bytealg.MaxLen"], apart := false, narrowed := true }
def RatioNearestUptoSaid : Prop := ratioNearestUptoRow.holds Try.pinned (OpenSpec.upto ratioNearestSpec)

/-- 'majordomolaw04.RatioKnown', WHERE WHAT IT READS IS OF BULK AT MOST 1048576: true; the input reads as it did. -/
def ratioKnownUptoRow : OpenClaim := { program := "ytaojdlcailpheaa", sum := "79123b2d0239747f88c4e3dc6a791cf43026789cf01980ac827e1d70e966816d", func := "majordomo/majordomolaw04.RatioKnown", spec := "ratioKnown", inPlace := ["internal/bytealg.IndexByteString", "internal/bytealg.IndexString"], unfollowed := true, recurses := true, named := ["math/bits.overflowError", "internal/bytealg.MaxLen"], apart := false, narrowed := true }
def RatioKnownUptoSaid : Prop := ratioKnownUptoRow.holds Try.pinned (OpenSpec.upto ratioKnownSpec)

end Rows
end Go.Proofs.Ytaojdlcailpheaa
