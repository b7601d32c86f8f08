/- The walk of RatioWhole: Floor and Int return what the reference returns. -/
import Derived.Test.YtaojdlcailpheaaQMO
import Derived.Test.YtaojdlcailpheaaQVF
set_option linter.unusedVariables false
namespace Go.Proofs.Ytaojdlcailpheaa
open Go.RowKit

set_option maxRecDepth 100000 in
set_option maxHeartbeats 4000000 in
theorem whole_walk (w : World) (v : Value) (x : F) (h : IsFA w v x) :
    Calls Try.prog 5 #[v] w fun e w' => e = .returned (.bool true) ∧ Below w.heap.size w w' := by
  obtain ⟨va, vb, rfl, h1, h2⟩ := h
  obtain ⟨p, cp, rfl, hp1, hp2⟩ := h1.shape
  obtain ⟨q, cq, rfl, hq1, hq2⟩ := h2.shape
  have hA : IsFA w (.agg #[.bool x.neg, .slice p x.num.length cp, .slice q x.den.length cq]) x := ⟨_, _, rfl, h1, h2⟩
  obtain ⟨W0, hW⟩ : ∃ W0, W0 = w.alloc (.cells #[.bool x.neg, .slice p x.num.length cp, .slice q x.den.length cq] 25) := ⟨_, rfl⟩
  have hb0 : Below w.heap.size w W0 := hW ▸ held_alloc (Below.refl _ w)
  have bx : Box W0 w.heap.size #[.bool x.neg, .slice p x.num.length cp, .slice q x.den.length cq] 25 := hW ▸ Box.new w _ _
  have HA := Lib.hid (hA.after hb0)
  have HB := Lib.hid hb0
  have CP := Lib.hid bx
  clear h1 h2 hA hb0 bx
  obtain ⟨X, hX⟩ : ∃ X, cut40 x = X := ⟨_, rfl⟩
  have HX := Lib.hid hX
  obtain ⟨R, hR⟩ : ∃ R, floorF X = R := ⟨_, rfl⟩
  have HR := Lib.hid hR
  obtain ⟨I, hI⟩ : ∃ I, intF X = I := ⟨_, rfl⟩
  have HI := Lib.hid hI
  clear hX hR hI
  go_enter Try.func5, Try.ntmps5
  go_upto_region 1 with fail
  rw [← hW]
  clear hW
  obtain ⟨c0, c1, c2⟩ := CP.out.cells3
  have hlx := CP.out.lt
  go_wp2_with fail
  refine (own40_a _ _ x HA.out).mono ?_
  rw [HX.out]
  rintro e w1 ⟨v, rfl, hv, hb1⟩
  obtain ⟨va, vb, rfl, h1, h2⟩ := hv
  obtain ⟨pP, mP, rfl, _, _⟩ := h1.shape
  obtain ⟨qP, nP, rfl, _, _⟩ := h2.shape
  have FP := Lib.hid (IsF.at_ h1 h2)
  clear h1 h2 c0 c1 c2 hlx HA
  replace CP := Lib.hid (CP.out.after hb1)
  replace HB := Lib.hid (HB.out.trans (hb1.mono HB.out.size))
  clear hb1
  obtain ⟨c0, c1, c2⟩ := CP.out.cells3
  have hlx := CP.out.lt
  have f0 := CP.out.frozen 0
  have f1 := CP.out.frozen 1
  have f2 := CP.out.frozen 2
  go_upto_region 2 with fail
  clear c0 c1 c2 hlx f0 f1 f2
  obtain ⟨w2, hw⟩ : ∃ w2, w2 = ((w1.setCell ⟨w.heap.size, 0, none⟩ (.bool (X).neg)).setCell ⟨w.heap.size, 1, none⟩ (.slice pP (X).num.length mP)).setCell ⟨w.heap.size, 2, none⟩ (.slice qP (X).den.length nP) := ⟨_, rfl⟩
  have hb := below_same hw
  rw [← hw]
  clear hw
  obtain ⟨KB, KS, KW, NC⟩ := after_set CP.out (fun _ h => by cases h) (fun _ h => by cases h) (fun _ h => by cases h) hb
  replace CP := Lib.hid NC
  replace FP := Lib.hid (FP.out.via KS)
  replace HB := Lib.hid (KW _ _ HB.out (by omega))
  clear KB KS KW NC hb
  obtain ⟨cP0, cP1, cP2⟩ := CP.out.cells3
  have ltP := CP.out.lt
  go_wp2_with fail
  refine (Floor_c _ _ X FP.out).mono ?_
  rw [HR.out]
  rintro e w3 ⟨v, rfl, hv, hb3⟩
  have hv : IsF _ v (R.1) := hv
  obtain ⟨va, vb, rfl, h1, h2⟩ := hv
  obtain ⟨pa, ma, rfl, _, _⟩ := h1.shape
  obtain ⟨qa, na, rfl, _, _⟩ := h2.shape
  have Fa := Lib.hid (IsF.at_ h1 h2)
  clear h1 h2
  clear cP0 cP1 cP2 ltP
  replace CP := Lib.hid (CP.out.after hb3)
  replace FP := Lib.hid (FP.out.after hb3)
  replace HB := Lib.hid (HB.out.trans (hb3.mono HB.out.size))
  clear hb3
  have d_P_a : w.heap.size < w3.heap.size := CP.out.lt
  have g_a : w.heap.size ≤ w3.heap.size := by have := HB.out.size; omega
  obtain ⟨cP0, cP1, cP2⟩ := CP.out.cells3
  have ltP := CP.out.lt
  go_wp2_with fail
  refine (rFloor_c _ _ X (FP.out.alloc _)).mono ?_
  rw [HR.out]
  rintro e w4 ⟨v, rfl, hv, hb4⟩
  have hv : IsF _ v (R.1) := hv
  obtain ⟨va, vb, rfl, h1, h2⟩ := hv
  obtain ⟨pb, mb, rfl, _, _⟩ := h1.shape
  obtain ⟨qb, nb, rfl, _, _⟩ := h2.shape
  have Fb := Lib.hid (IsF.at_ h1 h2)
  clear h1 h2
  clear cP0 cP1 cP2 ltP
  obtain ⟨hb4, Ca⟩ := after_new hb4
  replace Ca := Lib.hid Ca
  replace CP := Lib.hid (CP.out.after hb4)
  replace FP := Lib.hid (FP.out.after hb4)
  replace Fa := Lib.hid (Fa.out.after hb4)
  replace HB := Lib.hid (HB.out.trans (hb4.mono HB.out.size))
  clear hb4
  have d_P_b : w.heap.size < w4.heap.size := CP.out.lt
  have d_a_b : w3.heap.size < w4.heap.size := Ca.out.lt
  have g_b : w.heap.size ≤ w4.heap.size := by have := HB.out.size; omega
  obtain ⟨cP0, cP1, cP2⟩ := CP.out.cells3
  have ltP := CP.out.lt
  obtain ⟨ca0, ca1, ca2⟩ := Ca.out.cells3
  have lta := Ca.out.lt
  go_wp2_with fail
  refine (Int_c _ _ X (FP.out.alloc _)).mono ?_
  rw [HI.out]
  rintro e w5 ⟨rfl, hb5⟩
  clear cP0 cP1 cP2 ltP ca0 ca1 ca2 lta
  obtain ⟨hb5, Cb⟩ := after_new hb5
  replace Cb := Lib.hid Cb
  replace CP := Lib.hid (CP.out.after hb5)
  replace Ca := Lib.hid (Ca.out.after hb5)
  replace FP := Lib.hid (FP.out.after hb5)
  replace Fa := Lib.hid (Fa.out.after hb5)
  replace Fb := Lib.hid (Fb.out.after hb5)
  replace HB := Lib.hid (HB.out.trans (hb5.mono HB.out.size))
  clear hb5
  obtain ⟨cP0, cP1, cP2⟩ := CP.out.cells3
  have ltP := CP.out.lt
  obtain ⟨ca0, ca1, ca2⟩ := Ca.out.cells3
  have lta := Ca.out.lt
  obtain ⟨cb0, cb1, cb2⟩ := Cb.out.cells3
  have ltb := Cb.out.lt
  go_wp2_with fail
  refine (rInt_c _ _ X FP.out).mono ?_
  rw [HI.out]
  rintro e w6 ⟨rfl, hb6⟩
  clear cP0 cP1 cP2 ltP ca0 ca1 ca2 lta cb0 cb1 cb2 ltb
  replace CP := Lib.hid (CP.out.after hb6)
  replace Ca := Lib.hid (Ca.out.after hb6)
  replace Cb := Lib.hid (Cb.out.after hb6)
  replace FP := Lib.hid (FP.out.after hb6)
  replace Fa := Lib.hid (Fa.out.after hb6)
  replace Fb := Lib.hid (Fb.out.after hb6)
  replace HB := Lib.hid (HB.out.trans (hb6.mono HB.out.size))
  clear hb6
  obtain ⟨cP0, cP1, cP2⟩ := CP.out.cells3
  have ltP := CP.out.lt
  obtain ⟨ca0, ca1, ca2⟩ := Ca.out.cells3
  have lta := Ca.out.lt
  obtain ⟨cb0, cb1, cb2⟩ := Cb.out.cells3
  have ltb := Cb.out.lt
  go_wp2_with fail
  refine (same_c _ _ _ R.2 R.1 Fa.out Fb.out).mono ?_
  rintro e w7 ⟨rfl, hb7⟩
  clear cP0 cP1 cP2 ltP ca0 ca1 ca2 lta cb0 cb1 cb2 ltb
  replace CP := Lib.hid (CP.out.after hb7)
  replace Ca := Lib.hid (Ca.out.after hb7)
  replace Cb := Lib.hid (Cb.out.after hb7)
  replace FP := Lib.hid (FP.out.after hb7)
  replace Fa := Lib.hid (Fa.out.after hb7)
  replace Fb := Lib.hid (Fb.out.after hb7)
  replace HB := Lib.hid (HB.out.trans (hb7.mono HB.out.size))
  clear hb7
  obtain ⟨cP0, cP1, cP2⟩ := CP.out.cells3
  have ltP := CP.out.lt
  obtain ⟨ca0, ca1, ca2⟩ := Ca.out.cells3
  have lta := Ca.out.lt
  obtain ⟨cb0, cb1, cb2⟩ := Cb.out.cells3
  have ltb := Cb.out.lt
  go_wp2_with fail
  refine (rworks_c _).mono ?_
  rintro e w8 ⟨rfl, hb8⟩
  clear cP0 cP1 cP2 ltP ca0 ca1 ca2 lta cb0 cb1 cb2 ltb
  replace CP := Lib.hid (CP.out.after hb8)
  replace Ca := Lib.hid (Ca.out.after hb8)
  replace Cb := Lib.hid (Cb.out.after hb8)
  replace FP := Lib.hid (FP.out.after hb8)
  replace Fa := Lib.hid (Fa.out.after hb8)
  replace Fb := Lib.hid (Fb.out.after hb8)
  replace HB := Lib.hid (HB.out.trans (hb8.mono HB.out.size))
  clear hb8
  obtain ⟨cP0, cP1, cP2⟩ := CP.out.cells3
  have ltP := CP.out.lt
  obtain ⟨ca0, ca1, ca2⟩ := Ca.out.cells3
  have lta := Ca.out.lt
  obtain ⟨cb0, cb1, cb2⟩ := Cb.out.cells3
  have ltb := Cb.out.lt
  go_wp2_with fail
  go_ret
  exact ⟨rfl, HB.out⟩
end Go.Proofs.Ytaojdlcailpheaa
