/- Journal: the walk of JournalWritten. -/
import Derived.Test.YtpaoeeamlinaaaaGreatDoorK12
set_option linter.unusedVariables false
namespace Go.Proofs.YtpaoeeamlinaaaaGreatDoor
open Go.RowKit

theorem ba_ext {a b : ByteArray} (h : a.data.toList = b.data.toList) : a = b := by
  obtain ⟨⟨x⟩⟩ := a
  obtain ⟨⟨y⟩⟩ := b
  simp only at h
  rw [h]
theorem extract_bs (l : List UInt8) (a b : Nat) : (bs l).extract a b = bs ((l.take b).drop a) := ba_ext (by
  rw [ByteArray.data_extract, Array.toList_extract, List.extract_eq_take_drop, List.drop_take]
  rfl)
theorem extract_front (l : List UInt8) (b : Nat) : (bs l).extract 0 b = bs (l.take b) := by rw [extract_bs, List.drop_zero]

end Go.Proofs.YtpaoeeamlinaaaaGreatDoor
