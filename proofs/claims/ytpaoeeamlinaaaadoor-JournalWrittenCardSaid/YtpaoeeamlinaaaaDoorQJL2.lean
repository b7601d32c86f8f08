/- Journal: the walk of JournalWritten. -/
import Derived.Test.YtpaoeeamlinaaaaDoorK12
set_option linter.unusedVariables false
namespace Go.Proofs.YtpaoeeamlinaaaaDoor
open Go.RowKit

theorem ba_ext {a b : ByteArray} (h : a.data.toList = b.data.toList) : a = b := by
  obtain ⟨⟨x⟩⟩ := a
  obtain ⟨⟨y⟩⟩ := b
  simp only at h
  rw [h]
theorem extract_bs (l : List UInt8) (a b : Nat) : (bs l).extract a b = bs ((l.take b).drop a) := ba_ext (by
  rw [ByteArray.data_extract, Array.toList_extract, List.extract_eq_take_drop, List.drop_take]
  rfl)
theorem extract_front (l : List UInt8) (b : Nat) : (bs l).extract 0 b = bs (l.take b) := by rw [extract_bs, List.drop_zero]

set_option maxRecDepth 100000 in
set_option maxHeartbeats 2000000 in
theorem journalWritten_w (w : World) (text : List UInt8) (ht : text.length ≤ 9223372036854775807) (he : Env w) : Calls Tryd.prog 3 #[.string (bs text)] w fun e w' => e = .returned (.bool true) ∧ Below w.heap.size w w' := by
  have HE := Lib.hid he
  obtain ⟨m, hm⟩ : ∃ m, min text.length 12000 = m := ⟨_, rfl⟩
  have hm1 : min (text.length : Int) 12000 = (m : Int) := by omega
  have hm2 : m ≤ text.length := by omega
  have hm3 : m ≤ 12000 := by omega
  obtain ⟨x, hx⟩ : ∃ x, text.take m = x := ⟨_, rfl⟩
  have hx1 : (bs text).extract 0 m = bs x := by rw [extract_front, hx]
  have hxl : x.length = m := by rw [← hx, List.length_take]; omega
  have HXL := Lib.hid hxl
  have htz := bs_size text
  have hxz : (bs x).size = m := by rw [bs_size, hxl]
  obtain ⟨rs, n, er, hr⟩ : ∃ rs n er, readF x = (rs, n, er) := ⟨_, _, _, rfl⟩
  have HR := Lib.hid hr
  have hwr := readF_written x
  rw [hr] at hwr
  dsimp only at hwr
  obtain ⟨y, hy⟩ : ∃ y, x.take n = y := ⟨_, rfl⟩
  have hy1 : (bs x).extract 0 n = bs y := by rw [extract_front, hy]
  rw [hy] at hwr
  have HL := Lib.hid hwr.1
  have hnm : n ≤ m := by rw [← hxl]; exact hwr.2
  have hnm1 : (n : Int) ≤ (m : Int) := by omega
  have hn0 : (0 : Int) ≤ (n : Int) := by omega
  have heq : ((bs y).toList == (bs y).toList) = true := by simp
  clear he hm hx hxl hr hwr hy
  go_enter Tryd.func3, Tryd.ntmps3
  go_wp2_with fail
  refine (Read_c w x (by rw [HXL.out]; omega) HE.out).mono ?_
  unfold RetRd
  rw [HR.out]
  rintro e w1 ⟨v, rfl, hv, hb1⟩
  have HB1 := Lib.hid hb1
  have HV := Lib.hid (hv.slR (fun _ _ k => k.is))
  clear hv hb1
  dsimp only
  go_wp2_with fail
  refine (Lines_c w1 v rs HV.out (HE.out.after HB1.out)).mono ?_
  unfold RetLs
  rw [HL.out]
  rintro e w2 ⟨rfl, hb2⟩
  have HB2 : Hid (Below w.heap.size w w2) := HB1.out.trans (hb2.mono HB1.out.size)
  clear hb2
  dsimp only
  go_wp2_with fail
  refine (lives_c w2 (HE.out.after HB2.out)).mono ?_
  rintro e w3 ⟨rfl, hb3⟩
  have HB3 : Hid (Below w.heap.size w w3) := HB2.out.trans (hb3.mono HB2.out.size)
  clear hb3
  go_wp2_with fail
  go_ret
  exact ⟨rfl, HB3.out⟩
end Go.Proofs.YtpaoeeamlinaaaaDoor
