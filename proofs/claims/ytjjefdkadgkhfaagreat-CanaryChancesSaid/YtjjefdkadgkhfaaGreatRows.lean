/-
  No cell of these rows narrows 'for every input' (looked for: loops, veiled, ifaces, maps, wideKeys, modest, calm, conditions, laid).
  DERIVED. THE GIVEN ROWS OF THIS SEAT. 3 by the template 'for every input the law returns true; each argument reads behind the call as it read before'; 0 by the template 'total and deterministic' (their statements: YtjjefdkadgkhfaaGreatTotals.lean).
  GIVEN WITH THE SEED: the statements are not yours to turn. If you find one false, say at which input.
  Laid BY PROGRAM, IN A SANDBOX (cutbox-rows.mjs): the forced cells as the released guide's own fill.sh prints them over the translation 54c8b036f028e624… (all of the seat's roots in one cut). By AI agents, Wed Nov 11 2026. No macro, syntax, notation, axiom, sorry.
-/
import Derived.Test.YtjjefdkadgkhfaaGreatChecked
import GoSem.Claim
import GoSem.ClaimJoined
import GoSem.ClaimMapViews
import Derived.JoinedTies
import Derived.KernelRfl
namespace Go.Proofs.YtjjefdkadgkhfaaGreat
/- THE CELL 'sum', in the pinned program and in every row, IS THE sha256 OF THE DUMP (.gsa) THAT YtjjefdkadgkhfaaGreatProg.lean LOADS. Nothing in Lean hashes anything: it is a label: what it is worth is what the hold of that sum in a sandbox is worth. -/
noncomputable def Tryz.pinned : Pinned := { name := "ytjjefdkadgkhfaagreat", sum := "54c8b036f028e624dcc6b00fa27dc7f21e283656dfd1320e1c827f053049e214", checked := Tryz.checked }
namespace Rows
def none {H : Type} : Left H := { results := [], args := [] }

/-- 'majordomolaw32.CanaryNexts': WHATEVER THE INPUT: true; the input reads as it did. -/
def canaryNextsSpec : ChangeSpec := { name := "canaryNexts", fn := fun _ => fun
  | [d1, d2] => { results := [.lit (.bool true)], args := [d1, d2] }
  | _ => none }
def canaryNextsRow : OpenClaim := { program := "ytjjefdkadgkhfaagreat", sum := "54c8b036f028e624dcc6b00fa27dc7f21e283656dfd1320e1c827f053049e214", func := "majordomo/majordomolaw32.CanaryNexts", spec := "canaryNexts", unfollowed := true, recurses := true, named := ["math/bits.overflowError"], apart := false }
def CanaryNextsSaid : Prop := canaryNextsRow.holds Tryz.pinned (OpenSpec.ofChange canaryNextsSpec)

/-- ITS FALSE NEIGHBOUR: 'it returns false'. Refute it at one input. -/
def canaryNextsWrong : ChangeSpec := { name := "canaryNexts", fn := fun _ => fun
  | [d1, d2] => { results := [.lit (.bool false)], args := [d1, d2] }
  | _ => none }
def CanaryNextsWrongFalsely : Prop := canaryNextsRow.holds Tryz.pinned (OpenSpec.ofChange canaryNextsWrong)

/-- 'majordomolaw32.CanaryChances': WHATEVER THE INPUT: true; the input reads as it did. -/
def canaryChancesSpec : ChangeSpec := { name := "canaryChances", fn := fun _ => fun
  | [d1, d2] => { results := [.lit (.bool true)], args := [d1, d2] }
  | _ => none }
def canaryChancesRow : OpenClaim := { program := "ytjjefdkadgkhfaagreat", sum := "54c8b036f028e624dcc6b00fa27dc7f21e283656dfd1320e1c827f053049e214", func := "majordomo/majordomolaw32.CanaryChances", spec := "canaryChances", unfollowed := true, recurses := true, named := ["math/bits.overflowError"], apart := false }
def CanaryChancesSaid : Prop := canaryChancesRow.holds Tryz.pinned (OpenSpec.ofChange canaryChancesSpec)

/-- ITS FALSE NEIGHBOUR: 'it returns false'. Refute it at one input. -/
def canaryChancesWrong : ChangeSpec := { name := "canaryChances", fn := fun _ => fun
  | [d1, d2] => { results := [.lit (.bool false)], args := [d1, d2] }
  | _ => none }
def CanaryChancesWrongFalsely : Prop := canaryChancesRow.holds Tryz.pinned (OpenSpec.ofChange canaryChancesWrong)

/-- 'majordomolaw32.CanaryRuns': WHATEVER THE INPUT: true; the input reads as it did. -/
def canaryRunsSpec : ChangeSpec := { name := "canaryRuns", fn := fun _ => fun
  | [d1, d2] => { results := [.lit (.bool true)], args := [d1, d2] }
  | _ => none }
def canaryRunsRow : OpenClaim := { program := "ytjjefdkadgkhfaagreat", sum := "54c8b036f028e624dcc6b00fa27dc7f21e283656dfd1320e1c827f053049e214", func := "majordomo/majordomolaw32.CanaryRuns", spec := "canaryRuns", unfollowed := true, recurses := true, named := ["math/bits.overflowError"], apart := false }
def CanaryRunsSaid : Prop := canaryRunsRow.holds Tryz.pinned (OpenSpec.ofChange canaryRunsSpec)

/-- ITS FALSE NEIGHBOUR: 'it returns false'. Refute it at one input. -/
def canaryRunsWrong : ChangeSpec := { name := "canaryRuns", fn := fun _ => fun
  | [d1, d2] => { results := [.lit (.bool false)], args := [d1, d2] }
  | _ => none }
def CanaryRunsWrongFalsely : Prop := canaryRunsRow.holds Tryz.pinned (OpenSpec.ofChange canaryRunsWrong)

/- THE SECOND FORM. 'bulk': how many values and letters a reading holds, each counted each time it is reached (what is shared counts as often as it is met; a slice's spare places count too). A statement '..UptoSaid' is the law's where the arguments, and the package variables that the reading takes, are together of bulk at most 1048576: NARROWER than '..Said'. Prove '..Said' where nothing that the law and all that it calls make is longer than what came in: it says more and counts as full. Else prove '..UptoSaid'. A law counts once. -/
mutual
def uptoBulk {H : Type} : DataW H → Nat
  | .lit (.string bytes) => bytes.length + 1
  | .lit _ => 1
  | .nil => 1
  | .ptr d => uptoBulk d + 1
  | .slice elems spare => uptoBulkAll elems + uptoBulkAll spare + 1
  | .agg parts => uptoBulkAll parts + 1
  | .iface _ d => uptoBulk d + 1
  | .map entries => uptoBulkEntries entries + 1
  | .held _ => 1
def uptoBulkAll {H : Type} : List (DataW H) → Nat
  | [] => 0
  | d :: r => uptoBulk d + uptoBulkAll r
def uptoBulkEntries {H : Type} : List (Lit × DataW H) → Nat
  | [] => 0
  | x :: r => uptoBulkEntry x + uptoBulkEntries r
def uptoBulkEntry {H : Type} : Lit × DataW H → Nat
  | (.string bytes, d) => bytes.length + uptoBulk d + 1
  | (_, d) => uptoBulk d + 1
 end
def uptoSmall : (H : Type) → List (DataW H) → Bool := fun _ ds => decide (uptoBulkAll ds ≤ 1048576)
def OpenSpec.upto (s : _root_.Go.ChangeSpec) : _root_.Go.OpenSpec := { _root_.Go.OpenSpec.ofChange s with cond := some uptoSmall }

/-- 'majordomolaw32.CanaryNexts', WHERE WHAT IT READS IS OF BULK AT MOST 1048576: true; the input reads as it did. -/
def canaryNextsUptoRow : OpenClaim := { program := "ytjjefdkadgkhfaagreat", sum := "54c8b036f028e624dcc6b00fa27dc7f21e283656dfd1320e1c827f053049e214", func := "majordomo/majordomolaw32.CanaryNexts", spec := "canaryNexts", unfollowed := true, recurses := true, named := ["math/bits.overflowError"], apart := false, narrowed := true }
def CanaryNextsUptoSaid : Prop := canaryNextsUptoRow.holds Tryz.pinned (OpenSpec.upto canaryNextsSpec)

/-- 'majordomolaw32.CanaryChances', WHERE WHAT IT READS IS OF BULK AT MOST 1048576: true; the input reads as it did. -/
def canaryChancesUptoRow : OpenClaim := { program := "ytjjefdkadgkhfaagreat", sum := "54c8b036f028e624dcc6b00fa27dc7f21e283656dfd1320e1c827f053049e214", func := "majordomo/majordomolaw32.CanaryChances", spec := "canaryChances", unfollowed := true, recurses := true, named := ["math/bits.overflowError"], apart := false, narrowed := true }
def CanaryChancesUptoSaid : Prop := canaryChancesUptoRow.holds Tryz.pinned (OpenSpec.upto canaryChancesSpec)

/-- 'majordomolaw32.CanaryRuns', WHERE WHAT IT READS IS OF BULK AT MOST 1048576: true; the input reads as it did. -/
def canaryRunsUptoRow : OpenClaim := { program := "ytjjefdkadgkhfaagreat", sum := "54c8b036f028e624dcc6b00fa27dc7f21e283656dfd1320e1c827f053049e214", func := "majordomo/majordomolaw32.CanaryRuns", spec := "canaryRuns", unfollowed := true, recurses := true, named := ["math/bits.overflowError"], apart := false, narrowed := true }
def CanaryRunsUptoSaid : Prop := canaryRunsUptoRow.holds Tryz.pinned (OpenSpec.upto canaryRunsSpec)

end Rows
end Go.Proofs.YtjjefdkadgkhfaaGreat
