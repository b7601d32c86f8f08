/- Journal: the walk of JournalReads. -/
import Derived.Test.YtpaoeeamlinaaaaGreatDoorQJU5
import Derived.Test.YtpaoeeamlinaaaaGreatDoorQJU8
set_option linter.unusedVariables false
namespace Go.Proofs.YtpaoeeamlinaaaaGreatDoor
open Go.RowKit

theorem journalReads_w (w : World) (text : List UInt8) (ht : text.length ≤ 9223372036854775807) (he : Env w) :
    Calls Tryz.prog 4 #[.string (bs text)] w fun e w' => e = .returned (.bool true) ∧ Below w.heap.size w w' :=
  journalReads_of (fun wx t h => rRead_of (fun wy line hl => rread_of (fun wz f hf => rRecord_c wz f hf) wy line hl) wx t (by omega)) w text ht he
end Go.Proofs.YtpaoeeamlinaaaaGreatDoor
