/- Journal: the walk of JournalReads, from what the reference's Read answers. -/
import Derived.Test.YtpaoeeamlinaaaaGreatDoorQJL5
import Derived.Test.YtpaoeeamlinaaaaGreatDoorQJU3
set_option linter.unusedVariables false
namespace Go.Proofs.YtpaoeeamlinaaaaGreatDoor
open Go.RowKit

set_option maxRecDepth 100000 in
set_option maxHeartbeats 2000000 in
theorem journalReads_of (hR : ∀ (wx : World) (t : List UInt8), t.length ≤ 12000 → Calls Tryz.prog 18 #[.string (bs t)] wx (RetRd wx t)) (w : World) (text : List UInt8) (ht : text.length ≤ 9223372036854775807) (he : Env w) :
    Calls Tryz.prog 4 #[.string (bs text)] w fun e w' => e = .returned (.bool true) ∧ Below w.heap.size w w' := by
  have HE := Lib.hid he
  have HRR := Lib.hid hR
  obtain ⟨m, hm⟩ : ∃ m, min text.length 12000 = m := ⟨_, rfl⟩
  have hm1 : min (text.length : Int) 12000 = (m : Int) := by omega
  have hm2 : m ≤ text.length := by omega
  have hm3 : m ≤ 12000 := by omega
  obtain ⟨x, hx⟩ : ∃ x, text.take m = x := ⟨_, rfl⟩
  have hx1 : (bs text).extract 0 m = bs x := by rw [extract_front, hx]
  have hxl : x.length ≤ 12000 := by rw [← hx, List.length_take]; omega
  have HXL := Lib.hid hxl
  have htz := bs_size text
  obtain ⟨rs, n, er, hr⟩ : ∃ rs n er, readF x = (rs, n, er) := ⟨_, _, _, rfl⟩
  have HR := Lib.hid hr
  have q1 : ((n : Int) == (n : Int)) = true := by simp
  have q2 : (er == er) = true := by simp
  clear he hR hm hx hxl hr
  go_enter Tryz.func4, Tryz.ntmps4
  go_wp2_with fail
  refine (Read_c w x (by have := HXL.out; omega) HE.out).mono ?_
  unfold RetRd
  rw [HR.out]
  rintro e w1 ⟨v, rfl, hv, hb1⟩
  have HB1 := Lib.hid hb1
  have HV := Lib.hid (hv.slR (fun _ _ k => k.is))
  clear hv hb1
  dsimp only
  go_wp2_with fail
  refine (HRR.out w1 x HXL.out).mono ?_
  unfold RetRd
  rw [HR.out]
  rintro e w2 ⟨u, rfl, hu, hb2⟩
  have HB2 : Hid (Below w.heap.size w w2) := HB1.out.trans (hb2.mono HB1.out.size)
  have HU := Lib.hid (hu.slR (fun _ _ k => k.is))
  have HV2 := Lib.hid (HV.out.after hb2)
  clear hu hb2
  dsimp only
  go_wp2_with fail
  refine (rSameAll_c w2 v u rs rs HV2.out HU.out).mono ?_
  rw [decide_eq_true (rfl : rs = rs)]
  rintro e w3 ⟨rfl, hb3⟩
  have HB3 : Hid (Below w.heap.size w w3) := HB2.out.trans (hb3.mono HB2.out.size)
  clear hb3
  go_wp2_with fail
  refine (lives_c w3 (HE.out.after HB3.out)).mono ?_
  rintro e w4 ⟨rfl, hb4⟩
  have HB4 : Hid (Below w.heap.size w w4) := HB3.out.trans (hb4.mono HB3.out.size)
  clear hb4
  go_wp2_with fail
  go_ret
  exact ⟨rfl, HB4.out⟩
end Go.Proofs.YtpaoeeamlinaaaaGreatDoor
