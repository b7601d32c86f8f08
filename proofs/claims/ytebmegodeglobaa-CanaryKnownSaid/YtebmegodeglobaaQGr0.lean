/- Drawn regions as lemmas of their own. -/
import Derived.Test.YtebmegodeglobaaK27
set_option linter.unusedVariables false
namespace Go.Proofs.Ytebmegodeglobaa
open Go.RowKit

/-- The operations of region n. -/
def regOf (n : Nat) : Code → Option (Array Oper)
  | .region id ops _ => if id = n then some ops else none
  | .seq a b => match regOf n a with
    | some x => some x
    | none => regOf n b
  | .cond _ a b => match regOf n a with
    | some x => some x
    | none => regOf n b
  | .block _ a => regOf n a
  | .loop a => regOf n a
  | .scope a => regOf n a
  | _ => none
end Go.Proofs.Ytebmegodeglobaa
