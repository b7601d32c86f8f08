/-
  No cell of these rows narrows 'for every input' (looked for: loops, veiled, ifaces, maps, wideKeys, modest, calm, conditions, laid).
  DERIVED. THE GIVEN ROWS OF THIS SEAT. 7 by the template 'for every input the law returns true; each argument reads behind the call as it read before'; 0 by the template 'total and deterministic' (their statements: YtppehiajocgiiaaTotals.lean).
  GIVEN WITH THE SEED: the statements are not yours to turn. If you find one false, say at which input.
  Laid BY PROGRAM, IN A SANDBOX (cutbox-rows.mjs): the forced cells as the released guide's own fill.sh prints them over the translation e78b46b323d61722… (all of the seat's roots in one cut). By AI agents, Wed Nov 11 2026. No macro, syntax, notation, axiom, sorry.
-/
import Derived.Test.YtppehiajocgiiaaChecked
import GoSem.Claim
import GoSem.ClaimJoined
import GoSem.ClaimMapViews
import Derived.JoinedTies
import Derived.KernelRfl
namespace Go.Proofs.Ytppehiajocgiiaa
/- THE CELL 'sum', in the pinned program and in every row, IS THE sha256 OF THE DUMP (.gsa) THAT YtppehiajocgiiaaProg.lean LOADS. Nothing in Lean hashes anything: it is a label: what it is worth is what the hold of that sum in a sandbox is worth. -/
noncomputable def Try.pinned : Pinned := { name := "ytppehiajocgiiaa", sum := "e78b46b323d6172245dfc95e72fea5357d33f4b8b0cccd9f5741e22424d5504d", checked := Try.checked }
namespace Rows
def none {H : Type} : Left H := { results := [], args := [] }

/-- 'majordomolaw11.TailsExact': WHATEVER THE INPUT: true; the input reads as it did. -/
def tailsExactSpec : ChangeSpec := { name := "tailsExact", fn := fun _ => fun
  | [d1, d2, d3] => { results := [.lit (.bool true)], args := [d1, d2, d3] }
  | _ => none }
def tailsExactRow : OpenClaim := { program := "ytppehiajocgiiaa", sum := "e78b46b323d6172245dfc95e72fea5357d33f4b8b0cccd9f5741e22424d5504d", func := "majordomo/majordomolaw11.TailsExact", spec := "tailsExact", unfollowed := true, recurses := true, named := ["math/bits.overflowError"], apart := false }
def TailsExactSaid : Prop := tailsExactRow.holds Try.pinned (OpenSpec.ofChange tailsExactSpec)

/-- ITS FALSE NEIGHBOUR: 'it returns false'. Refute it at one input. -/
def tailsExactWrong : ChangeSpec := { name := "tailsExact", fn := fun _ => fun
  | [d1, d2, d3] => { results := [.lit (.bool false)], args := [d1, d2, d3] }
  | _ => none }
def TailsExactWrongFalsely : Prop := tailsExactRow.holds Try.pinned (OpenSpec.ofChange tailsExactWrong)

/-- 'majordomolaw11.TailsSeeks': WHATEVER THE INPUT: true; the input reads as it did. -/
def tailsSeeksSpec : ChangeSpec := { name := "tailsSeeks", fn := fun _ => fun
  | [d1, d2, d3, d4, d5] => { results := [.lit (.bool true)], args := [d1, d2, d3, d4, d5] }
  | _ => none }
def tailsSeeksRow : OpenClaim := { program := "ytppehiajocgiiaa", sum := "e78b46b323d6172245dfc95e72fea5357d33f4b8b0cccd9f5741e22424d5504d", func := "majordomo/majordomolaw11.TailsSeeks", spec := "tailsSeeks", unfollowed := true, recurses := true, named := ["math/bits.overflowError"], apart := false }
def TailsSeeksSaid : Prop := tailsSeeksRow.holds Try.pinned (OpenSpec.ofChange tailsSeeksSpec)

/-- ITS FALSE NEIGHBOUR: 'it returns false'. Refute it at one input. -/
def tailsSeeksWrong : ChangeSpec := { name := "tailsSeeks", fn := fun _ => fun
  | [d1, d2, d3, d4, d5] => { results := [.lit (.bool false)], args := [d1, d2, d3, d4, d5] }
  | _ => none }
def TailsSeeksWrongFalsely : Prop := tailsSeeksRow.holds Try.pinned (OpenSpec.ofChange tailsSeeksWrong)

/-- 'majordomolaw11.TailsSum': WHATEVER THE INPUT: true; the input reads as it did. -/
def tailsSumSpec : ChangeSpec := { name := "tailsSum", fn := fun _ => fun
  | [d1, d2, d3] => { results := [.lit (.bool true)], args := [d1, d2, d3] }
  | _ => none }
def tailsSumRow : OpenClaim := { program := "ytppehiajocgiiaa", sum := "e78b46b323d6172245dfc95e72fea5357d33f4b8b0cccd9f5741e22424d5504d", func := "majordomo/majordomolaw11.TailsSum", spec := "tailsSum", unfollowed := true, recurses := true, named := ["math/bits.overflowError"], apart := false }
def TailsSumSaid : Prop := tailsSumRow.holds Try.pinned (OpenSpec.ofChange tailsSumSpec)

/-- ITS FALSE NEIGHBOUR: 'it returns false'. Refute it at one input. -/
def tailsSumWrong : ChangeSpec := { name := "tailsSum", fn := fun _ => fun
  | [d1, d2, d3] => { results := [.lit (.bool false)], args := [d1, d2, d3] }
  | _ => none }
def TailsSumWrongFalsely : Prop := tailsSumRow.holds Try.pinned (OpenSpec.ofChange tailsSumWrong)

/-- 'majordomolaw11.TailsRise': WHATEVER THE INPUT: true; the input reads as it did. -/
def tailsRiseSpec : ChangeSpec := { name := "tailsRise", fn := fun _ => fun
  | [d1, d2, d3, d4, d5, d6] => { results := [.lit (.bool true)], args := [d1, d2, d3, d4, d5, d6] }
  | _ => none }
def tailsRiseRow : OpenClaim := { program := "ytppehiajocgiiaa", sum := "e78b46b323d6172245dfc95e72fea5357d33f4b8b0cccd9f5741e22424d5504d", func := "majordomo/majordomolaw11.TailsRise", spec := "tailsRise", unfollowed := true, recurses := true, named := ["math/bits.overflowError"], apart := false }
def TailsRiseSaid : Prop := tailsRiseRow.holds Try.pinned (OpenSpec.ofChange tailsRiseSpec)

/-- ITS FALSE NEIGHBOUR: 'it returns false'. Refute it at one input. -/
def tailsRiseWrong : ChangeSpec := { name := "tailsRise", fn := fun _ => fun
  | [d1, d2, d3, d4, d5, d6] => { results := [.lit (.bool false)], args := [d1, d2, d3, d4, d5, d6] }
  | _ => none }
def TailsRiseWrongFalsely : Prop := tailsRiseRow.holds Try.pinned (OpenSpec.ofChange tailsRiseWrong)

/-- 'majordomolaw11.TailsTurned': WHATEVER THE INPUT: true; the input reads as it did. -/
def tailsTurnedSpec : ChangeSpec := { name := "tailsTurned", fn := fun _ => fun
  | [d1, d2, d3, d4] => { results := [.lit (.bool true)], args := [d1, d2, d3, d4] }
  | _ => none }
def tailsTurnedRow : OpenClaim := { program := "ytppehiajocgiiaa", sum := "e78b46b323d6172245dfc95e72fea5357d33f4b8b0cccd9f5741e22424d5504d", func := "majordomo/majordomolaw11.TailsTurned", spec := "tailsTurned", unfollowed := true, recurses := true, named := ["math/bits.overflowError"], apart := false }
def TailsTurnedSaid : Prop := tailsTurnedRow.holds Try.pinned (OpenSpec.ofChange tailsTurnedSpec)

/-- ITS FALSE NEIGHBOUR: 'it returns false'. Refute it at one input. -/
def tailsTurnedWrong : ChangeSpec := { name := "tailsTurned", fn := fun _ => fun
  | [d1, d2, d3, d4] => { results := [.lit (.bool false)], args := [d1, d2, d3, d4] }
  | _ => none }
def TailsTurnedWrongFalsely : Prop := tailsTurnedRow.holds Try.pinned (OpenSpec.ofChange tailsTurnedWrong)

/-- 'majordomolaw11.TailsBound': WHATEVER THE INPUT: true; the input reads as it did. -/
def tailsBoundSpec : ChangeSpec := { name := "tailsBound", fn := fun _ => fun
  | [d1, d2, d3, d4, d5, d6, d7] => { results := [.lit (.bool true)], args := [d1, d2, d3, d4, d5, d6, d7] }
  | _ => none }
def tailsBoundRow : OpenClaim := { program := "ytppehiajocgiiaa", sum := "e78b46b323d6172245dfc95e72fea5357d33f4b8b0cccd9f5741e22424d5504d", func := "majordomo/majordomolaw11.TailsBound", spec := "tailsBound", unfollowed := true, recurses := true, named := ["math/bits.overflowError"], apart := false }
def TailsBoundSaid : Prop := tailsBoundRow.holds Try.pinned (OpenSpec.ofChange tailsBoundSpec)

/-- ITS FALSE NEIGHBOUR: 'it returns false'. Refute it at one input. -/
def tailsBoundWrong : ChangeSpec := { name := "tailsBound", fn := fun _ => fun
  | [d1, d2, d3, d4, d5, d6, d7] => { results := [.lit (.bool false)], args := [d1, d2, d3, d4, d5, d6, d7] }
  | _ => none }
def TailsBoundWrongFalsely : Prop := tailsBoundRow.holds Try.pinned (OpenSpec.ofChange tailsBoundWrong)

/-- 'majordomolaw11.TailsKnown': WHATEVER THE INPUT: true; the input reads as it did. -/
def tailsKnownSpec : ChangeSpec := { name := "tailsKnown", fn := fun _ => fun
  | [] => { results := [.lit (.bool true)], args := [] }
  | _ => none }
def tailsKnownRow : OpenClaim := { program := "ytppehiajocgiiaa", sum := "e78b46b323d6172245dfc95e72fea5357d33f4b8b0cccd9f5741e22424d5504d", func := "majordomo/majordomolaw11.TailsKnown", spec := "tailsKnown", unfollowed := true, recurses := true, named := ["math/bits.overflowError"], apart := false }
def TailsKnownSaid : Prop := tailsKnownRow.holds Try.pinned (OpenSpec.ofChange tailsKnownSpec)

/-- ITS FALSE NEIGHBOUR: 'it returns false'. Refute it at one input. -/
def tailsKnownWrong : ChangeSpec := { name := "tailsKnown", fn := fun _ => fun
  | [] => { results := [.lit (.bool false)], args := [] }
  | _ => none }
def TailsKnownWrongFalsely : Prop := tailsKnownRow.holds Try.pinned (OpenSpec.ofChange tailsKnownWrong)

/- THE SECOND FORM. 'bulk': how many values and letters a reading holds, each counted each time it is reached (what is shared counts as often as it is met; a slice's spare places count too). A statement '..UptoSaid' is the law's where the arguments, and the package variables that the reading takes, are together of bulk at most 1048576: NARROWER than '..Said'. Prove '..Said' where nothing that the law and all that it calls make is longer than what came in: it says more and counts as full. Else prove '..UptoSaid'. A law counts once. -/
mutual
def uptoBulk {H : Type} : DataW H → Nat
  | .lit (.string bytes) => bytes.length + 1
  | .lit _ => 1
  | .nil => 1
  | .ptr d => uptoBulk d + 1
  | .slice elems spare => uptoBulkAll elems + uptoBulkAll spare + 1
  | .agg parts => uptoBulkAll parts + 1
  | .iface _ d => uptoBulk d + 1
  | .map entries => uptoBulkEntries entries + 1
  | .held _ => 1
def uptoBulkAll {H : Type} : List (DataW H) → Nat
  | [] => 0
  | d :: r => uptoBulk d + uptoBulkAll r
def uptoBulkEntries {H : Type} : List (Lit × DataW H) → Nat
  | [] => 0
  | x :: r => uptoBulkEntry x + uptoBulkEntries r
def uptoBulkEntry {H : Type} : Lit × DataW H → Nat
  | (.string bytes, d) => bytes.length + uptoBulk d + 1
  | (_, d) => uptoBulk d + 1
 end
def uptoSmall : (H : Type) → List (DataW H) → Bool := fun _ ds => decide (uptoBulkAll ds ≤ 1048576)
def OpenSpec.upto (s : _root_.Go.ChangeSpec) : _root_.Go.OpenSpec := { _root_.Go.OpenSpec.ofChange s with cond := some uptoSmall }

/-- 'majordomolaw11.TailsExact', WHERE WHAT IT READS IS OF BULK AT MOST 1048576: true; the input reads as it did. -/
def tailsExactUptoRow : OpenClaim := { program := "ytppehiajocgiiaa", sum := "e78b46b323d6172245dfc95e72fea5357d33f4b8b0cccd9f5741e22424d5504d", func := "majordomo/majordomolaw11.TailsExact", spec := "tailsExact", unfollowed := true, recurses := true, named := ["math/bits.overflowError"], apart := false, narrowed := true }
def TailsExactUptoSaid : Prop := tailsExactUptoRow.holds Try.pinned (OpenSpec.upto tailsExactSpec)

/-- 'majordomolaw11.TailsSeeks', WHERE WHAT IT READS IS OF BULK AT MOST 1048576: true; the input reads as it did. -/
def tailsSeeksUptoRow : OpenClaim := { program := "ytppehiajocgiiaa", sum := "e78b46b323d6172245dfc95e72fea5357d33f4b8b0cccd9f5741e22424d5504d", func := "majordomo/majordomolaw11.TailsSeeks", spec := "tailsSeeks", unfollowed := true, recurses := true, named := ["math/bits.overflowError"], apart := false, narrowed := true }
def TailsSeeksUptoSaid : Prop := tailsSeeksUptoRow.holds Try.pinned (OpenSpec.upto tailsSeeksSpec)

/-- 'majordomolaw11.TailsSum', WHERE WHAT IT READS IS OF BULK AT MOST 1048576: true; the input reads as it did. -/
def tailsSumUptoRow : OpenClaim := { program := "ytppehiajocgiiaa", sum := "e78b46b323d6172245dfc95e72fea5357d33f4b8b0cccd9f5741e22424d5504d", func := "majordomo/majordomolaw11.TailsSum", spec := "tailsSum", unfollowed := true, recurses := true, named := ["math/bits.overflowError"], apart := false, narrowed := true }
def TailsSumUptoSaid : Prop := tailsSumUptoRow.holds Try.pinned (OpenSpec.upto tailsSumSpec)

/-- 'majordomolaw11.TailsRise', WHERE WHAT IT READS IS OF BULK AT MOST 1048576: true; the input reads as it did. -/
def tailsRiseUptoRow : OpenClaim := { program := "ytppehiajocgiiaa", sum := "e78b46b323d6172245dfc95e72fea5357d33f4b8b0cccd9f5741e22424d5504d", func := "majordomo/majordomolaw11.TailsRise", spec := "tailsRise", unfollowed := true, recurses := true, named := ["math/bits.overflowError"], apart := false, narrowed := true }
def TailsRiseUptoSaid : Prop := tailsRiseUptoRow.holds Try.pinned (OpenSpec.upto tailsRiseSpec)

/-- 'majordomolaw11.TailsTurned', WHERE WHAT IT READS IS OF BULK AT MOST 1048576: true; the input reads as it did. -/
def tailsTurnedUptoRow : OpenClaim := { program := "ytppehiajocgiiaa", sum := "e78b46b323d6172245dfc95e72fea5357d33f4b8b0cccd9f5741e22424d5504d", func := "majordomo/majordomolaw11.TailsTurned", spec := "tailsTurned", unfollowed := true, recurses := true, named := ["math/bits.overflowError"], apart := false, narrowed := true }
def TailsTurnedUptoSaid : Prop := tailsTurnedUptoRow.holds Try.pinned (OpenSpec.upto tailsTurnedSpec)

/-- 'majordomolaw11.TailsBound', WHERE WHAT IT READS IS OF BULK AT MOST 1048576: true; the input reads as it did. -/
def tailsBoundUptoRow : OpenClaim := { program := "ytppehiajocgiiaa", sum := "e78b46b323d6172245dfc95e72fea5357d33f4b8b0cccd9f5741e22424d5504d", func := "majordomo/majordomolaw11.TailsBound", spec := "tailsBound", unfollowed := true, recurses := true, named := ["math/bits.overflowError"], apart := false, narrowed := true }
def TailsBoundUptoSaid : Prop := tailsBoundUptoRow.holds Try.pinned (OpenSpec.upto tailsBoundSpec)

/-- 'majordomolaw11.TailsKnown', WHERE WHAT IT READS IS OF BULK AT MOST 1048576: true; the input reads as it did. -/
def tailsKnownUptoRow : OpenClaim := { program := "ytppehiajocgiiaa", sum := "e78b46b323d6172245dfc95e72fea5357d33f4b8b0cccd9f5741e22424d5504d", func := "majordomo/majordomolaw11.TailsKnown", spec := "tailsKnown", unfollowed := true, recurses := true, named := ["math/bits.overflowError"], apart := false, narrowed := true }
def TailsKnownUptoSaid : Prop := tailsKnownUptoRow.holds Try.pinned (OpenSpec.upto tailsKnownSpec)

end Rows
end Go.Proofs.Ytppehiajocgiiaa
