/- The examples of the chapter, as the statements on ratio look at them: the walk of works().
   Walks of the statements' own functions: small, equal, sign, floor.
   Plain: fractions of bounded size, by value.
   How a law's statement follows from its walk: the arguments read as they did where nothing below the heap's old size has turned. -/
import Derived.Test.YtaojdlcailpheaaK28
import Derived.Test.YtaojdlcailpheaaK17
import Derived.Test.YtaojdlcailpheaaK01
import Derived.Test.YtaojdlcailpheaaRows
import Derived.ProofKit
import Derived.OpenShut
import Derived.WideKeyArgs
set_option linter.unusedVariables false
namespace Go.Proofs.Ytaojdlcailpheaa
open Go.RowKit

set_option maxRecDepth 100000 in
set_option maxHeartbeats 8000000 in
theorem rworks_c (w : World) : Calls Try.prog 24 #[] w fun e w' => e = .returned (.bool true) ∧ Below w.heap.size w w' := by
  have HB : Hid (Below w.heap.size w w) := Below.refl _ _
  go_enter Try.func24, Try.ntmps24
  go_wp2_with fail
  refine (Of_c _ 1 2 (by omega) (by omega) (by omega) (by omega)).mono ?_
  rw [x_of12]
  rintro e w1 ⟨v, rfl, hv, hb1⟩
  have hv : IsF _ v (fr false 1 2) := hv
  obtain ⟨va, vb, rfl, h1, h2⟩ := hv
  obtain ⟨pH, mH, rfl, _, _⟩ := h1.shape
  obtain ⟨qH, nH, rfl, _, _⟩ := h2.shape
  have FH := Lib.hid (IsF.at_ h1 h2)
  clear h1 h2
  replace HB := Lib.hid (HB.out.trans (hb1.mono HB.out.size))
  clear hb1
  have g_H : w.heap.size ≤ w1.heap.size := by have := HB.out.size; omega
  go_wp2_with fail
  refine (Of_c _ 2 6 (by omega) (by omega) (by omega) (by omega)).mono ?_
  rw [x_of26]
  rintro e w2 ⟨v, rfl, hv, hb2⟩
  have hv : IsF _ v (fr false 1 3) := hv
  obtain ⟨va, vb, rfl, h1, h2⟩ := hv
  obtain ⟨pT, mT, rfl, _, _⟩ := h1.shape
  obtain ⟨qT, nT, rfl, _, _⟩ := h2.shape
  have FT := Lib.hid (IsF.at_ h1 h2)
  clear h1 h2
  obtain ⟨hb2, CH⟩ := after_new hb2
  replace CH := Lib.hid CH
  replace FH := Lib.hid (FH.out.after hb2)
  replace HB := Lib.hid (HB.out.trans (hb2.mono HB.out.size))
  clear hb2
  have d_H_T : w1.heap.size < w2.heap.size := CH.out.lt
  have g_T : w.heap.size ≤ w2.heap.size := by have := HB.out.size; omega
  obtain ⟨cH0, cH1, cH2⟩ := CH.out.cells3
  have ltH := CH.out.lt
  go_wp2_with fail
  refine (Text_c _ _ (fr false 1 2) (FH.out.alloc _)).mono ?_
  rw [t_12]
  rintro e w3 ⟨rfl, hb3⟩
  clear cH0 cH1 cH2 ltH
  obtain ⟨hb3, CT⟩ := after_new hb3
  replace CT := Lib.hid CT
  replace CH := Lib.hid (CH.out.after hb3)
  replace FH := Lib.hid (FH.out.after hb3)
  replace FT := Lib.hid (FT.out.after hb3)
  replace HB := Lib.hid (HB.out.trans (hb3.mono HB.out.size))
  clear hb3
  obtain ⟨cH0, cH1, cH2⟩ := CH.out.cells3
  have ltH := CH.out.lt
  obtain ⟨cT0, cT1, cT2⟩ := CT.out.cells3
  have ltT := CT.out.lt
  go_wp2_with fail
  refine (Valid_c _ _ (fr false 1 3) FT.out).mono ?_
  intro e w4 hr
  obtain ⟨rfl, hb4⟩ := hr.yes (validF_fr.2 v13)
  clear hr
  clear cH0 cH1 cH2 ltH cT0 cT1 cT2 ltT
  replace CH := Lib.hid (CH.out.after hb4)
  replace CT := Lib.hid (CT.out.after hb4)
  replace FH := Lib.hid (FH.out.after hb4)
  replace FT := Lib.hid (FT.out.after hb4)
  replace HB := Lib.hid (HB.out.trans (hb4.mono HB.out.size))
  clear hb4
  obtain ⟨cH0, cH1, cH2⟩ := CH.out.cells3
  have ltH := CH.out.lt
  obtain ⟨cT0, cT1, cT2⟩ := CT.out.cells3
  have ltT := CT.out.lt
  go_wp2_with fail
  refine (Add_c _ _ _ (fr false 1 2) (fr false 1 3) FH.out FT.out).mono ?_
  rw [x_add]
  rintro e w5 ⟨v, rfl, hv, hb5⟩
  have hv : IsF _ v (fr false 5 6) := hv
  obtain ⟨va, vb, rfl, h1, h2⟩ := hv
  obtain ⟨pA, mA, rfl, _, _⟩ := h1.shape
  obtain ⟨qA, nA, rfl, _, _⟩ := h2.shape
  have FA := Lib.hid (IsF.at_ h1 h2)
  clear h1 h2
  clear cH0 cH1 cH2 ltH cT0 cT1 cT2 ltT
  replace CH := Lib.hid (CH.out.after hb5)
  replace CT := Lib.hid (CT.out.after hb5)
  replace FH := Lib.hid (FH.out.after hb5)
  replace FT := Lib.hid (FT.out.after hb5)
  replace HB := Lib.hid (HB.out.trans (hb5.mono HB.out.size))
  clear hb5
  have d_H_A : w1.heap.size < w5.heap.size := CH.out.lt
  have d_T_A : w2.heap.size < w5.heap.size := CT.out.lt
  have g_A : w.heap.size ≤ w5.heap.size := by have := HB.out.size; omega
  obtain ⟨cH0, cH1, cH2⟩ := CH.out.cells3
  have ltH := CH.out.lt
  obtain ⟨cT0, cT1, cT2⟩ := CT.out.cells3
  have ltT := CT.out.lt
  go_wp2_with fail
  refine (Sub_c _ _ _ (fr false 1 3) (fr false 1 2) (FT.out.alloc _) (FH.out.alloc _)).mono ?_
  rw [x_sub]
  rintro e w6 ⟨v, rfl, hv, hb6⟩
  have hv : IsF _ v (fr true 1 6) := hv
  obtain ⟨va, vb, rfl, h1, h2⟩ := hv
  obtain ⟨pB, mB, rfl, _, _⟩ := h1.shape
  obtain ⟨qB, nB, rfl, _, _⟩ := h2.shape
  have FB := Lib.hid (IsF.at_ h1 h2)
  clear h1 h2
  clear cH0 cH1 cH2 ltH cT0 cT1 cT2 ltT
  obtain ⟨hb6, CA⟩ := after_new hb6
  replace CA := Lib.hid CA
  replace CH := Lib.hid (CH.out.after hb6)
  replace CT := Lib.hid (CT.out.after hb6)
  replace FH := Lib.hid (FH.out.after hb6)
  replace FT := Lib.hid (FT.out.after hb6)
  replace FA := Lib.hid (FA.out.after hb6)
  replace HB := Lib.hid (HB.out.trans (hb6.mono HB.out.size))
  clear hb6
  have d_H_B : w1.heap.size < w6.heap.size := CH.out.lt
  have d_T_B : w2.heap.size < w6.heap.size := CT.out.lt
  have d_A_B : w5.heap.size < w6.heap.size := CA.out.lt
  have g_B : w.heap.size ≤ w6.heap.size := by have := HB.out.size; omega
  obtain ⟨cH0, cH1, cH2⟩ := CH.out.cells3
  have ltH := CH.out.lt
  obtain ⟨cT0, cT1, cT2⟩ := CT.out.cells3
  have ltT := CT.out.lt
  obtain ⟨cA0, cA1, cA2⟩ := CA.out.cells3
  have ltA := CA.out.lt
  go_wp2_with fail
  refine (Mul_c _ _ _ (fr false 1 2) (fr false 1 3) (FH.out.alloc _) (FT.out.alloc _)).mono ?_
  rw [x_mul]
  rintro e w7 ⟨v, rfl, hv, hb7⟩
  have hv : IsF _ v (fr false 1 6) := hv
  obtain ⟨va, vb, rfl, h1, h2⟩ := hv
  obtain ⟨pC, mC, rfl, _, _⟩ := h1.shape
  obtain ⟨qC, nC, rfl, _, _⟩ := h2.shape
  have FC := Lib.hid (IsF.at_ h1 h2)
  clear h1 h2
  clear cH0 cH1 cH2 ltH cT0 cT1 cT2 ltT cA0 cA1 cA2 ltA
  obtain ⟨hb7, CB⟩ := after_new hb7
  replace CB := Lib.hid CB
  replace CH := Lib.hid (CH.out.after hb7)
  replace CT := Lib.hid (CT.out.after hb7)
  replace CA := Lib.hid (CA.out.after hb7)
  replace FH := Lib.hid (FH.out.after hb7)
  replace FT := Lib.hid (FT.out.after hb7)
  replace FA := Lib.hid (FA.out.after hb7)
  replace FB := Lib.hid (FB.out.after hb7)
  replace HB := Lib.hid (HB.out.trans (hb7.mono HB.out.size))
  clear hb7
  have d_H_C : w1.heap.size < w7.heap.size := CH.out.lt
  have d_T_C : w2.heap.size < w7.heap.size := CT.out.lt
  have d_A_C : w5.heap.size < w7.heap.size := CA.out.lt
  have d_B_C : w6.heap.size < w7.heap.size := CB.out.lt
  have g_C : w.heap.size ≤ w7.heap.size := by have := HB.out.size; omega
  obtain ⟨cH0, cH1, cH2⟩ := CH.out.cells3
  have ltH := CH.out.lt
  obtain ⟨cT0, cT1, cT2⟩ := CT.out.cells3
  have ltT := CT.out.lt
  obtain ⟨cA0, cA1, cA2⟩ := CA.out.cells3
  have ltA := CA.out.lt
  obtain ⟨cB0, cB1, cB2⟩ := CB.out.cells3
  have ltB := CB.out.lt
  go_wp2_with fail
  refine (Div_c _ _ _ (fr false 1 2) (fr false 1 3) (FH.out.alloc _) (FT.out.alloc _)).mono ?_
  rw [x_div]
  rintro e w8 ⟨v, rfl, hv, hb8⟩
  have hv : IsF _ v (fr false 3 2) := hv
  obtain ⟨va, vb, rfl, h1, h2⟩ := hv
  obtain ⟨pD, mD, rfl, _, _⟩ := h1.shape
  obtain ⟨qD, nD, rfl, _, _⟩ := h2.shape
  have FD := Lib.hid (IsF.at_ h1 h2)
  clear h1 h2
  clear cH0 cH1 cH2 ltH cT0 cT1 cT2 ltT cA0 cA1 cA2 ltA cB0 cB1 cB2 ltB
  obtain ⟨hb8, CC⟩ := after_new hb8
  replace CC := Lib.hid CC
  replace CH := Lib.hid (CH.out.after hb8)
  replace CT := Lib.hid (CT.out.after hb8)
  replace CA := Lib.hid (CA.out.after hb8)
  replace CB := Lib.hid (CB.out.after hb8)
  replace FH := Lib.hid (FH.out.after hb8)
  replace FT := Lib.hid (FT.out.after hb8)
  replace FA := Lib.hid (FA.out.after hb8)
  replace FB := Lib.hid (FB.out.after hb8)
  replace FC := Lib.hid (FC.out.after hb8)
  replace HB := Lib.hid (HB.out.trans (hb8.mono HB.out.size))
  clear hb8
  have d_H_D : w1.heap.size < w8.heap.size := CH.out.lt
  have d_T_D : w2.heap.size < w8.heap.size := CT.out.lt
  have d_A_D : w5.heap.size < w8.heap.size := CA.out.lt
  have d_B_D : w6.heap.size < w8.heap.size := CB.out.lt
  have d_C_D : w7.heap.size < w8.heap.size := CC.out.lt
  have g_D : w.heap.size ≤ w8.heap.size := by have := HB.out.size; omega
  obtain ⟨cH0, cH1, cH2⟩ := CH.out.cells3
  have ltH := CH.out.lt
  obtain ⟨cT0, cT1, cT2⟩ := CT.out.cells3
  have ltT := CT.out.lt
  obtain ⟨cA0, cA1, cA2⟩ := CA.out.cells3
  have ltA := CA.out.lt
  obtain ⟨cB0, cB1, cB2⟩ := CB.out.cells3
  have ltB := CB.out.lt
  obtain ⟨cC0, cC1, cC2⟩ := CC.out.cells3
  have ltC := CC.out.lt
  go_wp2_with fail
  refine (Text_c _ _ (fr false 5 6) (FA.out.alloc _)).mono ?_
  rw [t_56]
  rintro e w9 ⟨rfl, hb9⟩
  clear cH0 cH1 cH2 ltH cT0 cT1 cT2 ltT cA0 cA1 cA2 ltA cB0 cB1 cB2 ltB cC0 cC1 cC2 ltC
  obtain ⟨hb9, CD⟩ := after_new hb9
  replace CD := Lib.hid CD
  replace CH := Lib.hid (CH.out.after hb9)
  replace CT := Lib.hid (CT.out.after hb9)
  replace CA := Lib.hid (CA.out.after hb9)
  replace CB := Lib.hid (CB.out.after hb9)
  replace CC := Lib.hid (CC.out.after hb9)
  replace FH := Lib.hid (FH.out.after hb9)
  replace FT := Lib.hid (FT.out.after hb9)
  replace FA := Lib.hid (FA.out.after hb9)
  replace FB := Lib.hid (FB.out.after hb9)
  replace FC := Lib.hid (FC.out.after hb9)
  replace FD := Lib.hid (FD.out.after hb9)
  replace HB := Lib.hid (HB.out.trans (hb9.mono HB.out.size))
  clear hb9
  obtain ⟨cH0, cH1, cH2⟩ := CH.out.cells3
  have ltH := CH.out.lt
  obtain ⟨cT0, cT1, cT2⟩ := CT.out.cells3
  have ltT := CT.out.lt
  obtain ⟨cA0, cA1, cA2⟩ := CA.out.cells3
  have ltA := CA.out.lt
  obtain ⟨cB0, cB1, cB2⟩ := CB.out.cells3
  have ltB := CB.out.lt
  obtain ⟨cC0, cC1, cC2⟩ := CC.out.cells3
  have ltC := CC.out.lt
  obtain ⟨cD0, cD1, cD2⟩ := CD.out.cells3
  have ltD := CD.out.lt
  go_wp2_with fail
  refine (Text_c _ _ (fr true 1 6) FB.out).mono ?_
  rw [t_16n]
  rintro e w10 ⟨rfl, hb10⟩
  clear cH0 cH1 cH2 ltH cT0 cT1 cT2 ltT cA0 cA1 cA2 ltA cB0 cB1 cB2 ltB cC0 cC1 cC2 ltC cD0 cD1 cD2 ltD
  replace CH := Lib.hid (CH.out.after hb10)
  replace CT := Lib.hid (CT.out.after hb10)
  replace CA := Lib.hid (CA.out.after hb10)
  replace CB := Lib.hid (CB.out.after hb10)
  replace CC := Lib.hid (CC.out.after hb10)
  replace CD := Lib.hid (CD.out.after hb10)
  replace FH := Lib.hid (FH.out.after hb10)
  replace FT := Lib.hid (FT.out.after hb10)
  replace FA := Lib.hid (FA.out.after hb10)
  replace FB := Lib.hid (FB.out.after hb10)
  replace FC := Lib.hid (FC.out.after hb10)
  replace FD := Lib.hid (FD.out.after hb10)
  replace HB := Lib.hid (HB.out.trans (hb10.mono HB.out.size))
  clear hb10
  obtain ⟨cH0, cH1, cH2⟩ := CH.out.cells3
  have ltH := CH.out.lt
  obtain ⟨cT0, cT1, cT2⟩ := CT.out.cells3
  have ltT := CT.out.lt
  obtain ⟨cA0, cA1, cA2⟩ := CA.out.cells3
  have ltA := CA.out.lt
  obtain ⟨cB0, cB1, cB2⟩ := CB.out.cells3
  have ltB := CB.out.lt
  obtain ⟨cC0, cC1, cC2⟩ := CC.out.cells3
  have ltC := CC.out.lt
  obtain ⟨cD0, cD1, cD2⟩ := CD.out.cells3
  have ltD := CD.out.lt
  go_wp2_with fail
  refine (Text_c _ _ (fr false 1 6) FC.out).mono ?_
  rw [t_16]
  rintro e w11 ⟨rfl, hb11⟩
  clear cH0 cH1 cH2 ltH cT0 cT1 cT2 ltT cA0 cA1 cA2 ltA cB0 cB1 cB2 ltB cC0 cC1 cC2 ltC cD0 cD1 cD2 ltD
  replace CH := Lib.hid (CH.out.after hb11)
  replace CT := Lib.hid (CT.out.after hb11)
  replace CA := Lib.hid (CA.out.after hb11)
  replace CB := Lib.hid (CB.out.after hb11)
  replace CC := Lib.hid (CC.out.after hb11)
  replace CD := Lib.hid (CD.out.after hb11)
  replace FH := Lib.hid (FH.out.after hb11)
  replace FT := Lib.hid (FT.out.after hb11)
  replace FA := Lib.hid (FA.out.after hb11)
  replace FB := Lib.hid (FB.out.after hb11)
  replace FC := Lib.hid (FC.out.after hb11)
  replace FD := Lib.hid (FD.out.after hb11)
  replace HB := Lib.hid (HB.out.trans (hb11.mono HB.out.size))
  clear hb11
  obtain ⟨cH0, cH1, cH2⟩ := CH.out.cells3
  have ltH := CH.out.lt
  obtain ⟨cT0, cT1, cT2⟩ := CT.out.cells3
  have ltT := CT.out.lt
  obtain ⟨cA0, cA1, cA2⟩ := CA.out.cells3
  have ltA := CA.out.lt
  obtain ⟨cB0, cB1, cB2⟩ := CB.out.cells3
  have ltB := CB.out.lt
  obtain ⟨cC0, cC1, cC2⟩ := CC.out.cells3
  have ltC := CC.out.lt
  obtain ⟨cD0, cD1, cD2⟩ := CD.out.cells3
  have ltD := CD.out.lt
  go_wp2_with fail
  refine (Text_c _ _ (fr false 3 2) FD.out).mono ?_
  rw [t_32]
  rintro e w12 ⟨rfl, hb12⟩
  clear cH0 cH1 cH2 ltH cT0 cT1 cT2 ltT cA0 cA1 cA2 ltA cB0 cB1 cB2 ltB cC0 cC1 cC2 ltC cD0 cD1 cD2 ltD
  replace CH := Lib.hid (CH.out.after hb12)
  replace CT := Lib.hid (CT.out.after hb12)
  replace CA := Lib.hid (CA.out.after hb12)
  replace CB := Lib.hid (CB.out.after hb12)
  replace CC := Lib.hid (CC.out.after hb12)
  replace CD := Lib.hid (CD.out.after hb12)
  replace FH := Lib.hid (FH.out.after hb12)
  replace FT := Lib.hid (FT.out.after hb12)
  replace FA := Lib.hid (FA.out.after hb12)
  replace FB := Lib.hid (FB.out.after hb12)
  replace FC := Lib.hid (FC.out.after hb12)
  replace FD := Lib.hid (FD.out.after hb12)
  replace HB := Lib.hid (HB.out.trans (hb12.mono HB.out.size))
  clear hb12
  clear FB CB FC CC FD CD
  obtain ⟨cH0, cH1, cH2⟩ := CH.out.cells3
  have ltH := CH.out.lt
  obtain ⟨cT0, cT1, cT2⟩ := CT.out.cells3
  have ltT := CT.out.lt
  obtain ⟨cA0, cA1, cA2⟩ := CA.out.cells3
  have ltA := CA.out.lt
  go_wp2_with fail
  refine (Cmp_c _ _ _ (fr false 1 2) (fr false 1 3) FH.out FT.out).mono ?_
  rw [x_cmp]
  rintro e w13 ⟨rfl, hb13⟩
  clear cH0 cH1 cH2 ltH cT0 cT1 cT2 ltT cA0 cA1 cA2 ltA
  replace CH := Lib.hid (CH.out.after hb13)
  replace CT := Lib.hid (CT.out.after hb13)
  replace CA := Lib.hid (CA.out.after hb13)
  replace FH := Lib.hid (FH.out.after hb13)
  replace FT := Lib.hid (FT.out.after hb13)
  replace FA := Lib.hid (FA.out.after hb13)
  replace HB := Lib.hid (HB.out.trans (hb13.mono HB.out.size))
  clear hb13
  obtain ⟨cH0, cH1, cH2⟩ := CH.out.cells3
  have ltH := CH.out.lt
  obtain ⟨cT0, cT1, cT2⟩ := CT.out.cells3
  have ltT := CT.out.lt
  obtain ⟨cA0, cA1, cA2⟩ := CA.out.cells3
  have ltA := CA.out.lt
  go_wp2_with fail
  refine (Read_c _ [45, 51, 47, 50] (by simp)).mono ?_
  rw [x_read]
  rintro e w14 ⟨v, rfl, hv, hb14⟩
  have hv : IsF _ v (fr true 3 2) := hv
  obtain ⟨va, vb, rfl, h1, h2⟩ := hv
  obtain ⟨pX, mX, rfl, _, _⟩ := h1.shape
  obtain ⟨qX, nX, rfl, _, _⟩ := h2.shape
  have FX := Lib.hid (IsF.at_ h1 h2)
  clear h1 h2
  clear cH0 cH1 cH2 ltH cT0 cT1 cT2 ltT cA0 cA1 cA2 ltA
  replace CH := Lib.hid (CH.out.after hb14)
  replace CT := Lib.hid (CT.out.after hb14)
  replace CA := Lib.hid (CA.out.after hb14)
  replace FH := Lib.hid (FH.out.after hb14)
  replace FT := Lib.hid (FT.out.after hb14)
  replace FA := Lib.hid (FA.out.after hb14)
  replace HB := Lib.hid (HB.out.trans (hb14.mono HB.out.size))
  clear hb14
  have d_H_X : w1.heap.size < w14.heap.size := CH.out.lt
  have d_T_X : w2.heap.size < w14.heap.size := CT.out.lt
  have d_A_X : w5.heap.size < w14.heap.size := CA.out.lt
  have g_X : w.heap.size ≤ w14.heap.size := by have := HB.out.size; omega
  obtain ⟨cH0, cH1, cH2⟩ := CH.out.cells3
  have ltH := CH.out.lt
  obtain ⟨cT0, cT1, cT2⟩ := CT.out.cells3
  have ltT := CT.out.lt
  obtain ⟨cA0, cA1, cA2⟩ := CA.out.cells3
  have ltA := CA.out.lt
  go_wp2_with fail
  refine (Floor_c _ _ (fr true 3 2) (FX.out.alloc _)).mono ?_
  rw [x_floor]
  rintro e w15 ⟨v, rfl, hv, hb15⟩
  have hv : IsF _ v (fr true 2 1) := hv
  obtain ⟨va, vb, rfl, h1, h2⟩ := hv
  obtain ⟨pY, mY, rfl, _, _⟩ := h1.shape
  obtain ⟨qY, nY, rfl, _, _⟩ := h2.shape
  have FY := Lib.hid (IsF.at_ h1 h2)
  clear h1 h2
  clear cH0 cH1 cH2 ltH cT0 cT1 cT2 ltT cA0 cA1 cA2 ltA
  obtain ⟨hb15, CX⟩ := after_new hb15
  replace CX := Lib.hid CX
  replace CH := Lib.hid (CH.out.after hb15)
  replace CT := Lib.hid (CT.out.after hb15)
  replace CA := Lib.hid (CA.out.after hb15)
  replace FH := Lib.hid (FH.out.after hb15)
  replace FT := Lib.hid (FT.out.after hb15)
  replace FA := Lib.hid (FA.out.after hb15)
  replace FX := Lib.hid (FX.out.after hb15)
  replace HB := Lib.hid (HB.out.trans (hb15.mono HB.out.size))
  clear hb15
  have d_H_Y : w1.heap.size < w15.heap.size := CH.out.lt
  have d_T_Y : w2.heap.size < w15.heap.size := CT.out.lt
  have d_A_Y : w5.heap.size < w15.heap.size := CA.out.lt
  have d_X_Y : w14.heap.size < w15.heap.size := CX.out.lt
  have g_Y : w.heap.size ≤ w15.heap.size := by have := HB.out.size; omega
  clear FX CX
  obtain ⟨cH0, cH1, cH2⟩ := CH.out.cells3
  have ltH := CH.out.lt
  obtain ⟨cT0, cT1, cT2⟩ := CT.out.cells3
  have ltT := CT.out.lt
  obtain ⟨cA0, cA1, cA2⟩ := CA.out.cells3
  have ltA := CA.out.lt
  go_wp2_with fail
  refine (Int_c _ _ (fr true 2 1) (FY.out.alloc _)).mono ?_
  rw [x_int]
  rintro e w16 ⟨rfl, hb16⟩
  clear cH0 cH1 cH2 ltH cT0 cT1 cT2 ltT cA0 cA1 cA2 ltA
  obtain ⟨hb16, CY⟩ := after_new hb16
  replace CY := Lib.hid CY
  replace CH := Lib.hid (CH.out.after hb16)
  replace CT := Lib.hid (CT.out.after hb16)
  replace CA := Lib.hid (CA.out.after hb16)
  replace FH := Lib.hid (FH.out.after hb16)
  replace FT := Lib.hid (FT.out.after hb16)
  replace FA := Lib.hid (FA.out.after hb16)
  replace FY := Lib.hid (FY.out.after hb16)
  replace HB := Lib.hid (HB.out.trans (hb16.mono HB.out.size))
  clear hb16
  obtain ⟨cH0, cH1, cH2⟩ := CH.out.cells3
  have ltH := CH.out.lt
  obtain ⟨cT0, cT1, cT2⟩ := CT.out.cells3
  have ltT := CT.out.lt
  obtain ⟨cA0, cA1, cA2⟩ := CA.out.cells3
  have ltA := CA.out.lt
  obtain ⟨cY0, cY1, cY2⟩ := CY.out.cells3
  have ltY := CY.out.lt
  go_wp2_with fail
  refine (Text_c _ _ (fr true 2 1) FY.out).mono ?_
  rw [t_21n]
  rintro e w17 ⟨rfl, hb17⟩
  clear cH0 cH1 cH2 ltH cT0 cT1 cT2 ltT cA0 cA1 cA2 ltA cY0 cY1 cY2 ltY
  replace CH := Lib.hid (CH.out.after hb17)
  replace CT := Lib.hid (CT.out.after hb17)
  replace CA := Lib.hid (CA.out.after hb17)
  replace CY := Lib.hid (CY.out.after hb17)
  replace FH := Lib.hid (FH.out.after hb17)
  replace FT := Lib.hid (FT.out.after hb17)
  replace FA := Lib.hid (FA.out.after hb17)
  replace FY := Lib.hid (FY.out.after hb17)
  replace HB := Lib.hid (HB.out.trans (hb17.mono HB.out.size))
  clear hb17
  clear FY CY
  obtain ⟨cH0, cH1, cH2⟩ := CH.out.cells3
  have ltH := CH.out.lt
  obtain ⟨cT0, cT1, cT2⟩ := CT.out.cells3
  have ltT := CT.out.lt
  obtain ⟨cA0, cA1, cA2⟩ := CA.out.cells3
  have ltA := CA.out.lt
  go_wp2_with fail
  refine (Simplest_c _ _ _ (fr false 1 3) (fr false 1 2) FT.out FH.out).mono ?_
  rw [x_simp]
  rintro e w18 ⟨v, rfl, hv, hb18⟩
  have hv : IsF _ v (fr false 1 2) := hv
  obtain ⟨va, vb, rfl, h1, h2⟩ := hv
  obtain ⟨pZ, mZ, rfl, _, _⟩ := h1.shape
  obtain ⟨qZ, nZ, rfl, _, _⟩ := h2.shape
  have FZ := Lib.hid (IsF.at_ h1 h2)
  clear h1 h2
  clear cH0 cH1 cH2 ltH cT0 cT1 cT2 ltT cA0 cA1 cA2 ltA
  replace CH := Lib.hid (CH.out.after hb18)
  replace CT := Lib.hid (CT.out.after hb18)
  replace CA := Lib.hid (CA.out.after hb18)
  replace FH := Lib.hid (FH.out.after hb18)
  replace FT := Lib.hid (FT.out.after hb18)
  replace FA := Lib.hid (FA.out.after hb18)
  replace HB := Lib.hid (HB.out.trans (hb18.mono HB.out.size))
  clear hb18
  have d_H_Z : w1.heap.size < w18.heap.size := CH.out.lt
  have d_T_Z : w2.heap.size < w18.heap.size := CT.out.lt
  have d_A_Z : w5.heap.size < w18.heap.size := CA.out.lt
  have g_Z : w.heap.size ≤ w18.heap.size := by have := HB.out.size; omega
  obtain ⟨cH0, cH1, cH2⟩ := CH.out.cells3
  have ltH := CH.out.lt
  obtain ⟨cT0, cT1, cT2⟩ := CT.out.cells3
  have ltT := CT.out.lt
  obtain ⟨cA0, cA1, cA2⟩ := CA.out.cells3
  have ltA := CA.out.lt
  go_wp2_with fail
  refine (Nearest_c _ _ (fr false 5 6) 4 (FA.out.alloc _) (by omega) (by omega)).mono ?_
  rw [x_near]
  rintro e w19 ⟨v, rfl, hv, hb19⟩
  have hv : IsF _ v (fr false 3 4) := hv
  obtain ⟨va, vb, rfl, h1, h2⟩ := hv
  obtain ⟨pW, mW, rfl, _, _⟩ := h1.shape
  obtain ⟨qW, nW, rfl, _, _⟩ := h2.shape
  have FW := Lib.hid (IsF.at_ h1 h2)
  clear h1 h2
  clear cH0 cH1 cH2 ltH cT0 cT1 cT2 ltT cA0 cA1 cA2 ltA
  obtain ⟨hb19, CZ⟩ := after_new hb19
  replace CZ := Lib.hid CZ
  replace CH := Lib.hid (CH.out.after hb19)
  replace CT := Lib.hid (CT.out.after hb19)
  replace CA := Lib.hid (CA.out.after hb19)
  replace FH := Lib.hid (FH.out.after hb19)
  replace FT := Lib.hid (FT.out.after hb19)
  replace FA := Lib.hid (FA.out.after hb19)
  replace FZ := Lib.hid (FZ.out.after hb19)
  replace HB := Lib.hid (HB.out.trans (hb19.mono HB.out.size))
  clear hb19
  have d_H_W : w1.heap.size < w19.heap.size := CH.out.lt
  have d_T_W : w2.heap.size < w19.heap.size := CT.out.lt
  have d_A_W : w5.heap.size < w19.heap.size := CA.out.lt
  have d_Z_W : w18.heap.size < w19.heap.size := CZ.out.lt
  have g_W : w.heap.size ≤ w19.heap.size := by have := HB.out.size; omega
  obtain ⟨cH0, cH1, cH2⟩ := CH.out.cells3
  have ltH := CH.out.lt
  obtain ⟨cT0, cT1, cT2⟩ := CT.out.cells3
  have ltT := CT.out.lt
  obtain ⟨cA0, cA1, cA2⟩ := CA.out.cells3
  have ltA := CA.out.lt
  obtain ⟨cZ0, cZ1, cZ2⟩ := CZ.out.cells3
  have ltZ := CZ.out.lt
  go_wp2_with fail
  refine (Text_c _ _ (fr false 1 2) (FZ.out.alloc _)).mono ?_
  rw [t_12]
  rintro e w20 ⟨rfl, hb20⟩
  clear cH0 cH1 cH2 ltH cT0 cT1 cT2 ltT cA0 cA1 cA2 ltA cZ0 cZ1 cZ2 ltZ
  obtain ⟨hb20, CW⟩ := after_new hb20
  replace CW := Lib.hid CW
  replace CH := Lib.hid (CH.out.after hb20)
  replace CT := Lib.hid (CT.out.after hb20)
  replace CA := Lib.hid (CA.out.after hb20)
  replace CZ := Lib.hid (CZ.out.after hb20)
  replace FH := Lib.hid (FH.out.after hb20)
  replace FT := Lib.hid (FT.out.after hb20)
  replace FA := Lib.hid (FA.out.after hb20)
  replace FZ := Lib.hid (FZ.out.after hb20)
  replace FW := Lib.hid (FW.out.after hb20)
  replace HB := Lib.hid (HB.out.trans (hb20.mono HB.out.size))
  clear hb20
  obtain ⟨cH0, cH1, cH2⟩ := CH.out.cells3
  have ltH := CH.out.lt
  obtain ⟨cT0, cT1, cT2⟩ := CT.out.cells3
  have ltT := CT.out.lt
  obtain ⟨cA0, cA1, cA2⟩ := CA.out.cells3
  have ltA := CA.out.lt
  obtain ⟨cZ0, cZ1, cZ2⟩ := CZ.out.cells3
  have ltZ := CZ.out.lt
  obtain ⟨cW0, cW1, cW2⟩ := CW.out.cells3
  have ltW := CW.out.lt
  go_wp2_with fail
  refine (Text_c _ _ (fr false 3 4) FW.out).mono ?_
  rw [t_34]
  rintro e w21 ⟨rfl, hb21⟩
  clear cH0 cH1 cH2 ltH cT0 cT1 cT2 ltT cA0 cA1 cA2 ltA cZ0 cZ1 cZ2 ltZ cW0 cW1 cW2 ltW
  replace CH := Lib.hid (CH.out.after hb21)
  replace CT := Lib.hid (CT.out.after hb21)
  replace CA := Lib.hid (CA.out.after hb21)
  replace CZ := Lib.hid (CZ.out.after hb21)
  replace CW := Lib.hid (CW.out.after hb21)
  replace FH := Lib.hid (FH.out.after hb21)
  replace FT := Lib.hid (FT.out.after hb21)
  replace FA := Lib.hid (FA.out.after hb21)
  replace FZ := Lib.hid (FZ.out.after hb21)
  replace FW := Lib.hid (FW.out.after hb21)
  replace HB := Lib.hid (HB.out.trans (hb21.mono HB.out.size))
  clear hb21
  obtain ⟨cH0, cH1, cH2⟩ := CH.out.cells3
  have ltH := CH.out.lt
  obtain ⟨cT0, cT1, cT2⟩ := CT.out.cells3
  have ltT := CT.out.lt
  obtain ⟨cA0, cA1, cA2⟩ := CA.out.cells3
  have ltA := CA.out.lt
  obtain ⟨cZ0, cZ1, cZ2⟩ := CZ.out.cells3
  have ltZ := CZ.out.lt
  obtain ⟨cW0, cW1, cW2⟩ := CW.out.cells3
  have ltW := CW.out.lt
  go_wp2_with fail
  go_ret
  exact ⟨rfl, HB.out⟩
end Go.Proofs.Ytaojdlcailpheaa

namespace Go.Proofs.Ytaojdlcailpheaa
open Go.RowKit

/-- What small returns. -/
noncomputable def smallF (n d : Int) : F := (ofF n (if d = 0 then 1 else d)).1
set_option maxRecDepth 100000 in
set_option maxHeartbeats 2000000 in
theorem small_c (w : World) (n d : Int) (n0 : -32768 ≤ n) (n1 : n ≤ 32767) (d0 : -32768 ≤ d) (d1 : d ≤ 32767) : Calls Try.prog 43 #[.int .i16 n, .int .i16 d] w (RetF1 w (smallF n d)) := by
  obtain ⟨W0, hW⟩ : ∃ W0, W0 = w.alloc (.cells #[.bool false, .slice none 0 0, .slice none 0 0] 25) := ⟨_, rfl⟩
  have hb0 : Below w.heap.size w W0 := hW ▸ held_alloc (Below.refl _ w)
  have br : Box W0 w.heap.size #[.bool false, .slice none 0 0, .slice none 0 0] 25 := hW ▸ Box.new w _ _
  have BR := Lib.hid br
  have HB0 := Lib.hid hb0
  have e1 : IntKind.i64.wrap n = n := wrap_in (by omega) (by omega)
  have e2 : IntKind.i64.wrap d = d := wrap_in (by omega) (by omega)
  clear hb0 br
  obtain ⟨R, hR⟩ : ∃ R, smallF n d = R := ⟨_, rfl⟩
  have HR := Lib.hid hR
  rw [hR]
  clear hR
  by_cases hd : d = 0
  · have HS : Hid ((ofF n 1).1 = R) := by have := HR.out; unfold smallF at this; rw [if_pos hd] at this; exact this
    subst hd
    go_enter Try.func43, Try.ntmps43
    go_upto_region 1 with fail
    rw [← hW]
    clear hW
    go_wp2_with fail
    refine (ROf_c _ n 1 (by omega) (by omega) (by omega) (by omega)).mono ?_
    rintro e w1 ⟨v1, rfl, hv1, hb⟩
    rw [HS.out] at hv1
    obtain ⟨va, vb, rfl, h1, h2⟩ := hv1
    obtain ⟨p, c, rfl, _, _⟩ := h1.shape
    obtain ⟨q, k, rfl, _, _⟩ := h2.shape
    obtain ⟨er, her⟩ : ∃ er, (ofF n 1).2 = er := ⟨_, rfl⟩
    rw [her]
    go_upto_region 5 with fail
    obtain ⟨W2, hW2⟩ : ∃ W2, W2 = w1.alloc (.cells #[.bool R.neg, .slice p R.num.length c, .slice q R.den.length k] 25) := ⟨_, rfl⟩
    have hbx : Below w1.heap.size w1 W2 := hW2 ▸ held_alloc (Below.refl _ w1)
    have bx : Box W2 w1.heap.size #[.bool R.neg, .slice p R.num.length c, .slice q R.den.length k] 25 := hW2 ▸ Box.new w1 _ _
    have hbb := hb.trans (hbx.mono hb.size)
    replace BR := Lib.hid (BR.out.after hbb)
    replace HB0 := Lib.hid (HB0.out.trans (hbb.mono HB0.out.size))
    have V1 := Lib.hid (h1.after hbx)
    have V2 := Lib.hid (h2.after hbx)
    rw [← hW2]
    clear hW2 hbx hbb hb h1 h2 her
    obtain ⟨x0, x1, x2⟩ := bx.cells3
    have hlx := bx.lt
    obtain ⟨r0, r1, r2⟩ := BR.out.cells3
    have f0 := BR.out.frozen 0
    have f1 := BR.out.frozen 1
    have f2 := BR.out.frozen 2
    have hlr := BR.out.lt
    clear bx
    go_wp2_with fail
    obtain ⟨y0, y1, y2⟩ := (end_box BR.out (y0 := .bool R.neg) (y1 := .slice p R.num.length c) (y2 := .slice q R.den.length k)).cells3
    refine bodyPost_ret (v := .agg #[.bool R.neg, .slice p R.num.length c, .slice q R.den.length k]) (by simp [results, Try.results43, go_sem, y0, y1, y2]) rfl ?_
    exact retF1_end (x := R) HB0.out BR.out (fun _ h => by cases h) (fun _ h => by cases h) (Nat.le_refl _) V1.out V2.out
  · have HS : Hid ((ofF n d).1 = R) := by have := HR.out; unfold smallF at this; rw [if_neg hd] at this; exact this
    have hdb : (d == 0) = false := beq_eq_false_iff_ne.2 hd
    clear hd
    go_enter Try.func43, Try.ntmps43
    go_upto_region 1 with fail
    rw [← hW]
    clear hW
    go_wp2_with fail
    refine (ROf_c _ n d (by omega) (by omega) (by omega) (by omega)).mono ?_
    rintro e w1 ⟨v1, rfl, hv1, hb⟩
    rw [HS.out] at hv1
    obtain ⟨va, vb, rfl, h1, h2⟩ := hv1
    obtain ⟨p, c, rfl, _, _⟩ := h1.shape
    obtain ⟨q, k, rfl, _, _⟩ := h2.shape
    obtain ⟨er, her⟩ : ∃ er, (ofF n d).2 = er := ⟨_, rfl⟩
    rw [her]
    go_upto_region 5 with fail
    obtain ⟨W2, hW2⟩ : ∃ W2, W2 = w1.alloc (.cells #[.bool R.neg, .slice p R.num.length c, .slice q R.den.length k] 25) := ⟨_, rfl⟩
    have hbx : Below w1.heap.size w1 W2 := hW2 ▸ held_alloc (Below.refl _ w1)
    have bx : Box W2 w1.heap.size #[.bool R.neg, .slice p R.num.length c, .slice q R.den.length k] 25 := hW2 ▸ Box.new w1 _ _
    have hbb := hb.trans (hbx.mono hb.size)
    replace BR := Lib.hid (BR.out.after hbb)
    replace HB0 := Lib.hid (HB0.out.trans (hbb.mono HB0.out.size))
    have V1 := Lib.hid (h1.after hbx)
    have V2 := Lib.hid (h2.after hbx)
    rw [← hW2]
    clear hW2 hbx hbb hb h1 h2 her
    obtain ⟨x0, x1, x2⟩ := bx.cells3
    have hlx := bx.lt
    obtain ⟨r0, r1, r2⟩ := BR.out.cells3
    have f0 := BR.out.frozen 0
    have f1 := BR.out.frozen 1
    have f2 := BR.out.frozen 2
    have hlr := BR.out.lt
    clear bx
    go_wp2_with fail
    obtain ⟨y0, y1, y2⟩ := (end_box BR.out (y0 := .bool R.neg) (y1 := .slice p R.num.length c) (y2 := .slice q R.den.length k)).cells3
    refine bodyPost_ret (v := .agg #[.bool R.neg, .slice p R.num.length c, .slice q R.den.length k]) (by simp [results, Try.results43, go_sem, y0, y1, y2]) rfl ?_
    exact retF1_end (x := R) HB0.out BR.out (fun _ h => by cases h) (fun _ h => by cases h) (Nat.le_refl _) V1.out V2.out

set_option maxRecDepth 100000 in
set_option maxHeartbeats 2000000 in
/-- equal at two fractions that are the same, with no errors. -/
theorem equal_c (w : World) (v u : Value) (x : F) (h : IsF w v x) (k : IsF w u x) : Calls Try.prog 44 #[v, .int .i64 0, u, .int .i64 0] w fun e w' => e = .returned (.bool true) ∧ Below w.heap.size w w' := by
  have HX := h
  have HY := k
  obtain ⟨va, vb, rfl, h1, h2⟩ := h
  obtain ⟨vc, vd, rfl, h3, h4⟩ := k
  obtain ⟨p0, k0, rfl, _, _⟩ := h1.shape
  obtain ⟨p1, k1, rfl, _, _⟩ := h2.shape
  obtain ⟨p2, k2, rfl, _, _⟩ := h3.shape
  obtain ⟨p3, k3, rfl, _, _⟩ := h4.shape
  obtain ⟨W0, hW, bx, by', hsz, hb0⟩ := start2 w #[.bool x.neg, .slice p0 x.num.length k0, .slice p1 x.den.length k1] #[.bool x.neg, .slice p2 x.num.length k2, .slice p3 x.den.length k3] 25
  have H1 := Lib.hid (HX.after hb0)
  have H2 := Lib.hid (HY.after hb0)
  have HB0 := Lib.hid hb0
  obtain ⟨c0, c1, c2⟩ := bx.cells3
  obtain ⟨d0, d1, d2⟩ := by'.cells3
  have hlx := bx.lt
  have hly := by'.lt
  clear HX HY h1 h2 h3 h4 bx by' hb0
  go_enter Try.func44, Try.ntmps44
  go_upto_region 1 with fail
  rw [← hW]
  clear hW
  go_wp2_with fail
  refine (Same_c W0 _ _ x x H1.out H2.out).mono ?_
  intro e w1 hr
  obtain ⟨rfl, hb1⟩ := hr.yes rfl
  have HB1 := Lib.hid (HB0.out.trans (hb1.mono HB0.out.size))
  clear hr hb1 c0 c1 c2 d0 d1 d2 hlx hly
  go_wp2_with fail
  go_ret
  exact ⟨rfl, HB1.out⟩

/-- What sign returns. -/
def signF (x : F) : Int := if x.neg = true then -1 else min (x.num.length : Int) 1
set_option maxRecDepth 100000 in
set_option maxHeartbeats 2000000 in
theorem lsign_c (w : World) (v : Value) (x : F) (h : IsF w v x) : Calls Try.prog 45 #[v] w fun e w' => e = .returned (.int .i64 (signF x)) ∧ Below w.heap.size w w' := by
  obtain ⟨va, vb, rfl, h1, h2⟩ := h
  obtain ⟨p0, k0, rfl, _, _⟩ := h1.shape
  obtain ⟨p1, k1, rfl, _, _⟩ := h2.shape
  obtain ⟨W0, hW⟩ : ∃ W0, W0 = w.alloc (.cells #[.bool x.neg, .slice p0 x.num.length k0, .slice p1 x.den.length k1] 25) := ⟨_, rfl⟩
  have hb0 : Below w.heap.size w W0 := hW ▸ held_alloc (Below.refl _ w)
  have bx : Box W0 w.heap.size #[.bool x.neg, .slice p0 x.num.length k0, .slice p1 x.den.length k1] 25 := hW ▸ Box.new w _ _
  obtain ⟨c0, c1, c2⟩ := bx.cells3
  have hlx := bx.lt
  have HB0 := Lib.hid hb0
  clear h1 h2 bx hb0
  obtain ⟨R, hR⟩ : ∃ R, signF x = R := ⟨_, rfl⟩
  have HR := Lib.hid hR
  rw [hR]
  clear hR
  cases hn : x.neg with
  | true =>
    have H2 : Hid (R = -1) := by show _ = _; rw [← HR.out]; unfold signF; rw [if_pos hn]
    rw [hn] at hW c0
    clear hn
    go_enter Try.func45, Try.ntmps45
    go_upto_region 1 with fail
    rw [← hW]
    clear hW
    go_wp2_with fail
    go_ret
    rw [H2.out]
    exact ⟨rfl, HB0.out⟩
  | false =>
    have H2 : Hid (R = min (x.num.length : Int) 1) := by show _ = _; rw [← HR.out]; unfold signF; rw [if_neg (by simp [hn])]
    rw [hn] at hW c0
    clear hn
    go_enter Try.func45, Try.ntmps45
    go_upto_region 1 with fail
    rw [← hW]
    clear hW
    go_wp2_with fail
    go_ret
    rw [H2.out]
    exact ⟨rfl, HB0.out⟩
end Go.Proofs.Ytaojdlcailpheaa

namespace Go.Proofs.Ytaojdlcailpheaa
open Go.RowKit

/-- x is z / d, both below 2 ^ k. -/
def Sm (x : F) (k : Nat) (z : Int) (d : Nat) : Prop := Rep x z d ∧ z.natAbs < 2 ^ k ∧ d < 2 ^ k
theorem limbs_twoM {n k m : Nat} (h : n < 2 ^ k) (hk : k ≤ 32 * m) : (limbs n).length ≤ m := by
  refine limbs_len_lt (Nat.lt_of_lt_of_le h ?_)
  rw [show (4294967296 : Nat) = 2 ^ 32 from rfl, ← Nat.pow_mul]
  exact Nat.pow_le_pow_right (by omega) hk
theorem limbs_two {n k : Nat} (h : n < 2 ^ k) (hk : k ≤ 1024) : (limbs n).length ≤ 32 := limbs_twoM h (show k ≤ 32 * 32 from hk)
theorem Sm.of {z : Int} {d k : Nat} (hd : 0 < d) (h1 : z.natAbs < 2 ^ k) (h2 : d < 2 ^ k) (hk : k ≤ 1024) : ∃ x, madeZ z d = (x, 0) ∧ Sm x k z d := by
  obtain ⟨x, e, h⟩ := rep_of_made hd (limbs_two h1 hk) (limbs_two h2 hk)
  exact ⟨x, e, h, h1, h2⟩
theorem mul_two {a b k l : Nat} (h1 : a < 2 ^ k) (h2 : b < 2 ^ l) : a * b < 2 ^ (k + l) := by
  rw [Nat.pow_add]
  exact Nat.mul_lt_mul'' h1 h2
theorem Sm.add {x y : F} {k l d d' : Nat} {z z' : Int} (h : Sm x k z d) (g : Sm y l z' d') (hk : k + l + 1 ≤ 1024) : ∃ v, opF sumN x y = (v, 0) ∧ Sm v (k + l + 1) (z * d' + z' * d) (d * d') := by
  rw [rep_add h.1 g.1]
  have m1 := mul_two h.2.1 g.2.2
  have m2 := mul_two g.2.1 h.2.2
  have m3 := mul_two h.2.2 g.2.2
  have e1 : (z * d').natAbs = z.natAbs * d' := by rw [Int.natAbs_mul, Int.natAbs_natCast]
  have e2 : (z' * d).natAbs = z'.natAbs * d := by rw [Int.natAbs_mul, Int.natAbs_natCast]
  rw [Nat.add_comm l k] at m2
  refine Sm.of (Nat.mul_pos h.1.1 g.1.1) ?_ ?_ hk
  · rw [Nat.pow_succ]; omega
  · rw [Nat.pow_succ]; omega
theorem Sm.sub {x y : F} {k l d d' : Nat} {z z' : Int} (h : Sm x k z d) (g : Sm y l z' d') (hk : k + l + 1 ≤ 1024) : ∃ v, opF subN x y = (v, 0) ∧ Sm v (k + l + 1) (z * d' - z' * d) (d * d') := by
  rw [rep_sub h.1 g.1]
  have m1 := mul_two h.2.1 g.2.2
  have m2 := mul_two g.2.1 h.2.2
  have m3 := mul_two h.2.2 g.2.2
  have e1 : (z * d').natAbs = z.natAbs * d' := by rw [Int.natAbs_mul, Int.natAbs_natCast]
  have e2 : (z' * d).natAbs = z'.natAbs * d := by rw [Int.natAbs_mul, Int.natAbs_natCast]
  rw [Nat.add_comm l k] at m2
  refine Sm.of (Nat.mul_pos h.1.1 g.1.1) ?_ ?_ hk
  · rw [Nat.pow_succ]; omega
  · rw [Nat.pow_succ]; omega
theorem Sm.mul {x y : F} {k l d d' : Nat} {z z' : Int} (h : Sm x k z d) (g : Sm y l z' d') (hk : k + l ≤ 1024) : ∃ v, opF mulN x y = (v, 0) ∧ Sm v (k + l) (z * z') (d * d') := by
  rw [rep_mul h.1 g.1]
  refine Sm.of (Nat.mul_pos h.1.1 g.1.1) ?_ (mul_two h.2.2 g.2.2) hk
  rw [Int.natAbs_mul]
  exact mul_two h.2.1 g.2.1
theorem Sm.eq {x y : F} {k l d d' : Nat} {z z' : Int} (h : Sm x k z d) (g : Sm y l z' d') (e : z * d' = z' * d) : x = y := (h.1.inj g.1).2 e
theorem rep_div {x y : F} {z z' : Int} {d d' : Nat} (h : Rep x z d) (k : Rep y z' d') (h0 : z' ≠ 0) : opF divN x y = madeZ (z * d' * z'.sign) (d * z'.natAbs) := by
  obtain ⟨hd, s, a, b, rfl, hk, h1⟩ := h
  obtain ⟨hd', t, c, e, rfl, hk', h2⟩ := k
  have hc : c ≠ 0 := fun hc => by
    subst hc
    have : sg t 0 = 0 := by unfold sg; split <;> simp
    rw [this, Int.zero_mul] at h2
    rcases Int.mul_eq_zero.1 h2.symm with h | h
    · exact h0 h
    · have := hk'.pos; omega
  have hcp : 0 < c := Nat.pos_of_ne_zero hc
  rw [opF_fr hk hk']
  unfold divN
  rw [if_neg hc, made_sg, sg_mul]
  have hn : 0 < z'.natAbs := Int.natAbs_pos.2 h0
  refine madeZ_cong (Nat.mul_pos hk.pos hcp) (Nat.mul_pos hd hn) ?_
  have key : sg t e * (z'.natAbs : Int) = d' * z'.sign * c := by
    unfold sg at h2 ⊢
    cases t with
    | true =>
      simp only [if_true] at h2 ⊢
      have hz : z' < 0 := by
        rcases Int.lt_or_le z' 0 with h | h
        · exact h
        · have p1 : 0 ≤ z' * (e : Int) := Int.mul_nonneg h (by omega)
          have p2 : 0 < (c : Int) * d' := Int.mul_pos (by omega) (by omega)
          have p3 : -(c : Int) * d' = -((c : Int) * d') := Int.neg_mul _ _
          omega
      rw [Int.sign_eq_neg_one_of_neg hz, show (z'.natAbs : Int) = -z' by omega]
      grind
    | false =>
      simp only [Bool.false_eq_true, if_false] at h2 ⊢
      have hz : 0 < z' := by
        rcases Int.lt_or_le 0 z' with h | h
        · exact h
        · have p1 : z' * (e : Int) ≤ 0 := Int.mul_nonpos_of_nonpos_of_nonneg h (by omega)
          have p2 : 0 < (c : Int) * d' := Int.mul_pos (by omega) (by omega)
          omega
      rw [Int.sign_eq_one_of_pos hz, show (z'.natAbs : Int) = z' by omega]
      grind
  push_cast
  have : sg s a * sg t e * ((d : Int) * (z'.natAbs : Int)) = (sg s a * d) * (sg t e * (z'.natAbs : Int)) := by grind
  rw [this, h1, key]
  grind
theorem Sm.div {x y : F} {k l d d' : Nat} {z z' : Int} (h : Sm x k z d) (g : Sm y l z' d') (h0 : z' ≠ 0) (hk : k + l ≤ 1024) : ∃ v, opF divN x y = (v, 0) ∧ Sm v (k + l) (z * d' * z'.sign) (d * z'.natAbs) := by
  rw [rep_div h.1 g.1 h0]
  refine Sm.of (Nat.mul_pos h.1.1 (Int.natAbs_pos.2 h0)) ?_ (mul_two h.2.2 g.2.1) hk
  rw [Int.natAbs_mul, Int.natAbs_mul, Int.natAbs_natCast, Int.natAbs_sign_of_ne_zero h0, Nat.mul_one]
  exact mul_two h.2.1 g.2.2
/-- What small returns, by value. -/
def smZ (n d : Int) : Int := if d = 0 then n else n * d.sign
def smD (d : Int) : Nat := if d = 0 then 1 else d.natAbs
theorem small_sm {n d : Int} (n0 : -32768 ≤ n) (n1 : n ≤ 32767) (d0 : -32768 ≤ d) (d1 : d ≤ 32767) : Sm (smallF n d) 16 (smZ n d) (smD d) := by
  have key : ∀ k : Int, k ≠ 0 → -32768 ≤ k → k ≤ 32767 → Sm (ofF n k).1 16 (n * k.sign) k.natAbs := fun k hk k0 k1 => by
    have e : ofF n k = madeZ (n * k.sign) k.natAbs := by
      unfold ofF
      rw [if_neg hk]
      unfold madeZ
      rcases Int.lt_or_gt_of_ne hk with h | h
      · rw [Int.sign_eq_neg_one_of_neg h, show n * -1 = -n by omega, Int.natAbs_neg]
        by_cases hn0 : n = 0
        · subst hn0; rw [show (0 : Int).natAbs = 0 from rfl, made_zero, made_zero (decide (-(0:Int) < 0))]
        · congr 1
          rw [show decide (k < 0) = true from decide_eq_true h]
          by_cases hn : n < 0
          · rw [decide_eq_true hn, decide_eq_false (by omega)]; rfl
          · rw [decide_eq_false hn, decide_eq_true (by omega)]; rfl
      · rw [Int.sign_eq_one_of_pos h, Int.mul_one, show decide (k < 0) = false from decide_eq_false (by omega)]
        congr 1
        cases decide (n < 0) <;> rfl
    have hs : (n * k.sign).natAbs = n.natAbs := by rw [Int.natAbs_mul, Int.natAbs_sign_of_ne_zero hk, Nat.mul_one]
    obtain ⟨x, e2, h⟩ := Sm.of (z := n * k.sign) (d := k.natAbs) (k := 16) (by omega) (by rw [hs]; have : (2:Nat) ^ 16 = 65536 := rfl; omega) (by have : (2:Nat) ^ 16 = 65536 := rfl; omega) (by omega)
    rw [e, e2]; exact h
  unfold smallF smZ smD
  by_cases h : d = 0
  · rw [if_pos h, if_pos h, if_pos h]
    have := key 1 (by omega) (by omega) (by omega)
    rw [show (1 : Int).sign = 1 from rfl, Int.mul_one] at this
    exact this
  · rw [if_neg h, if_neg h, if_neg h]
    exact key d h d0 d1
theorem Rep.neg_zero {x : F} {z : Int} {d : Nat} (h : Rep x z d) : (x.num.length ≤ 0 ↔ z = 0) ∧ (x.neg = true ↔ z < 0) := by
  obtain ⟨hd, s, a, b, rfl, hk, h1⟩ := h
  have hb := hk.pos
  have hl : (fr s a b).num.length = (limbs a).length := rfl
  have ha : (limbs a).length ≤ 0 ↔ a = 0 := by rw [Nat.le_zero, limbs_len_zero]
  rw [hl, ha]
  show _ ∧ (s = true ↔ _)
  have hsg := hk.sign
  unfold sg at h1
  cases s with
  | true =>
    have ha0 : a ≠ 0 := fun e => by have := hsg e; cases this
    simp only [if_true] at h1
    have p2 : 0 < (a : Int) * d := Int.mul_pos (by omega) (by omega)
    have p3 : -(a : Int) * d = -((a : Int) * d) := Int.neg_mul _ _
    have hz : z < 0 := by
      rcases Int.lt_or_le z 0 with h | h
      · exact h
      · have p1 : 0 ≤ z * (b : Int) := Int.mul_nonneg h (by omega)
        omega
    exact ⟨⟨fun h => absurd h ha0, fun h => by omega⟩, ⟨fun _ => hz, fun _ => rfl⟩⟩
  | false =>
    simp only [Bool.false_eq_true, if_false] at h1
    have p2 : 0 ≤ (a : Int) * d := Int.mul_nonneg (by omega) (by omega)
    have hz : 0 ≤ z := by
      rcases Int.lt_or_le z 0 with h | h
      · have p1 : z * (b : Int) < 0 := Int.mul_neg_of_neg_of_pos h (by omega)
        omega
      · exact h
    refine ⟨⟨fun h => ?_, fun h => ?_⟩, ⟨fun h => (by cases h), fun h => (by omega)⟩⟩
    · subst h
      rw [show ((0 : Nat) : Int) = 0 from rfl, Int.zero_mul] at h1
      rcases Int.mul_eq_zero.1 h1.symm with h | h
      · exact h
      · omega
    · subst h
      rw [Int.zero_mul] at h1
      rcases Int.mul_eq_zero.1 h1 with h | h <;> omega
end Go.Proofs.Ytaojdlcailpheaa

namespace Go.Proofs.Ytaojdlcailpheaa
open Go.ChangeShapes Go.WideShapes Go.ChangeAt Go.RowKit

theorem law_own : ownKnob Try.prog.godebug = none := by kernel_rfl
theorem law_laid : laidOutB Try.prog = true := by kernel_rfl

theorem trodAll_stays {H : Type} {enc : TypeId × Value → H} {P : Program} (hl : laidOutB P = true) {W W' : World} {sp' : Nat → Bool} : ∀ {ts : List TypeId} {vs : List Value} {ds : List (DataW H)} {ps : List MemPlace},
    (∀ t ∈ ts, P.readableRec t = true ∧ t < P.types.size) → DataW.TrodAll enc P W 0 (fun _ => true) true ts vs ds ps → (∀ p ∈ ps, W.sameAt W' p) → (∀ p ∈ ps, sp' p.block = true) → DataW.TrodAll enc P W' 0 sp' true ts vs ds ps
  | [], vs, ds, ps, _, h, _, _ => by
    obtain ⟨rfl, rfl, rfl⟩ := trodAll_nil h
    exact trodAll_mk0
  | t :: ts, vs, ds, ps, hr, h, h1, h2 => by
    obtain ⟨v, vs', d, ds', p, q, rfl, rfl, rfl, hv, hrest⟩ := trodAll_cons h
    obtain ⟨r1, r2⟩ := hr t (List.mem_cons.2 (.inl rfl))
    exact trodAll_cons_mk (WideElems.Trod_stays hl r1 r2 hv (fun x hx => h1 x (List.mem_append_left _ hx)) (fun x hx => h2 x (List.mem_append_left _ hx)))
      (trodAll_stays hl (fun t ht => hr t (List.mem_cons.2 (.inr ht))) hrest (fun x hx => h1 x (List.mem_append_right _ hx)) (fun x hx => h2 x (List.mem_append_right _ hx)))

theorem law_types {P : Program} {ts : List TypeId} (h : (ts.all fun t => P.readableRec t && decide (t < P.types.size)) = true) : ∀ t ∈ ts, P.readableRec t = true ∧ t < P.types.size := by
  intro t ht
  have := List.all_eq_true.1 h t ht
  simpa using this

/-- The end of a law's proof. -/
theorem law_post {H : Type} {enc : TypeId × Value → H} {P : Program} {f : Func} {s : ChangeSpec} {W W' : World} {args : Array Value} {ds gs : List (DataW H)} {before : List MemPlace} {tb : TypeId}
    (hl : laidOutB P = true) (hts : ∀ t ∈ f.params.toList, P.readableRec t = true ∧ t < P.types.size) (hvars : s.vars = []) (hres : f.resultTypes = #[tb]) (htb : P.underlying tb = some .bool)
    (hspec : s.fn H ds = { results := [.lit (.bool true)], args := ds, vars := [] }) (hW : DataW.Whole enc P f.params.toList s.vars false W args.toList ds gs before) (hb : Below W.heap.size W W') :
    s.post enc P f false true false false W args (.bool true) W' := by
  have hW' := hW
  have hlt : ∀ p ∈ before, p.block < W.heap.size := fun p hp => hW.lt p hp
  obtain ⟨p, q, hA, hV, rfl, _, _⟩ := hW
  rw [hvars] at hV
  obtain ⟨rfl, rfl⟩ := trodVars_none hV
  have hsp : s.fn H (ds ++ []) = { results := [.lit (.bool true)], args := ds, vars := [] } := by rw [List.append_nil]; exact hspec
  refine ⟨ds, [], p ++ [], [], p, [], hW', ?_, ?_, ?_, hb.frame _, fun h => by cases h⟩
  · rw [hsp, hres]
    exact trodAll_cons_mk (shut_bool htb true) trodAll_mk0
  · rw [hsp]
    exact trodAll_stays hl hts hA (fun x hx => hb.same (hlt x (by simpa using hx))) (fun x hx => by simpa using hlt x (by simpa using hx))
  · rw [hsp, hvars]; rfl
end Go.Proofs.Ytaojdlcailpheaa
