/- Walks of the statements about layer 2: SyntaxParses. -/
import Derived.Test.YtganlldidjbpiaaGreatDoorK23
import Derived.Test.YtganlldidjbpiaaGreatDoorQSyUA
set_option linter.unusedVariables false
namespace Go.Proofs.YtganlldidjbpiaaGreatDoor
open Go.RowKit Go.Shelf

set_option maxRecDepth 100000 in
set_option maxHeartbeats 4000000 in
theorem syntaxParses_w (N : Nat) (w : World) (a : List UInt8) (hl : a.length ≤ 9223372036854775807) (hN : N ≤ w.heap.size) (he : Wds N w) (ht : Tab10 w) : Calls Tryz.prog 3 #[.string (bs a)] w (RetB w true) := by
  have HE := Lib.hid he
  have HT := Lib.hid ht
  clear he ht
  obtain ⟨⟨l, o, f⟩, hA⟩ : ∃ R, parseF a = R := ⟨_, rfl⟩
  have HA := Lib.hid hA
  have q1 : (o == o) = true := by simp
  have q2 : ((f : Int) == (f : Int)) = true := by simp
  clear hA
  go_enter Tryz.func3, Tryz.ntmps3
  go_wp2_with fail
  refine (Parse_c N _ a hl hN HE.out).mono ?_
  rw [HA.out]
  rintro e w1 ⟨va, rfl, hv, hb⟩
  have HB1 := Lib.hid (hb)
  have hN1 : N ≤ w1.heap.size := Nat.le_trans hN hb.size
  have HE1 := Lib.hid (HE.out.after hb)
  have HT1 := Lib.hid (HT.out.after hb)
  have VA := Lib.hid hv
  obtain ⟨sa1, sc1, rfl, k1, kk1, _⟩ := hv.shape
  clear hv hb
  go_wp2_with fail
  refine (rParse_c _ a hl).mono ?_
  rw [HA.out]
  rintro e w2 ⟨vb, rfl, hv, hb⟩
  have HB2 := Lib.hid (HB1.out.trans (hb.mono HB1.out.size))
  have hN2 : N ≤ w2.heap.size := Nat.le_trans hN1 hb.size
  have HE2 := Lib.hid (HE1.out.after hb)
  have HT2 := Lib.hid (HT1.out.after hb)
  replace VA := Lib.hid (VA.out.after hb)
  have VB := Lib.hid hv
  obtain ⟨sa2, sc2, rfl, k2, kk2, _⟩ := hv.shape
  clear hv hb
  go_wp2_with fail
  refine (rEqual_yes _ _ _ _ _ l VA.out VB.out).mono ?_
  rintro e w3 ⟨rfl, hb⟩
  have HB3 := Lib.hid (HB2.out.trans (hb.mono HB2.out.size))
  have hN3 : N ≤ w3.heap.size := Nat.le_trans hN2 hb.size
  have HE3 := Lib.hid (HE2.out.after hb)
  have HT3 := Lib.hid (HT2.out.after hb)
  replace VA := Lib.hid (VA.out.after hb)
  replace VB := Lib.hid (VB.out.after hb)
  clear hb
  go_wp2_with fail
  refine (sawake_c N _ hN3 HE3.out HT3.out).mono ?_
  rintro e w4 ⟨rfl, hb⟩
  have HB4 := Lib.hid (HB3.out.trans (hb.mono HB3.out.size))
  clear hb
  go_wp2_with fail
  go_ret
  exact ⟨rfl, HB4.out⟩
end Go.Proofs.YtganlldidjbpiaaGreatDoor
