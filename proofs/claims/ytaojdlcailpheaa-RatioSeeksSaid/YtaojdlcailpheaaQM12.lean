/- The walk of RatioSeeks: Simplest and Nearest return what the reference returns. -/
import Derived.Test.YtaojdlcailpheaaQVF
import Derived.Test.YtaojdlcailpheaaQVS2
import Derived.Test.YtaojdlcailpheaaQVN2
import Derived.Test.YtaojdlcailpheaaQGk
set_option linter.unusedVariables false
namespace Go.Proofs.Ytaojdlcailpheaa
open Go.RowKit

set_option maxRecDepth 100000 in
set_option maxHeartbeats 16000000 in
theorem seeks_lo (w : World) (v u : Value) (x y : F) (den : Int) (h : IsFA w v x) (k : IsFA w u y) (n0 : -9223372036854775808 ≤ den) (n1 : den ≤ 9223372036854775807) (hd : den ≤ 100) :
    Calls Try.prog 6 #[v, u, .int .i64 den] w fun e w' => e = .returned (.bool true) ∧ Below w.heap.size w w' := by
  have hb1 : decide (100 < den) = false := decide_eq_false (by omega)
  obtain ⟨va, vb, rfl, h1, h2⟩ := h
  obtain ⟨p, cp, rfl, hp1, hp2⟩ := h1.shape
  obtain ⟨q, cq, rfl, hq1, hq2⟩ := h2.shape
  obtain ⟨vc, vd, rfl, h3, h4⟩ := k
  obtain ⟨p', cp', rfl, hp3, hp4⟩ := h3.shape
  obtain ⟨q', cq', rfl, hq3, hq4⟩ := h4.shape
  have hA : IsFA w (.agg #[.bool x.neg, .slice p x.num.length cp, .slice q x.den.length cq]) x := ⟨_, _, rfl, h1, h2⟩
  have hB : IsFA w (.agg #[.bool y.neg, .slice p' y.num.length cp', .slice q' y.den.length cq']) y := ⟨_, _, rfl, h3, h4⟩
  obtain ⟨W0, hW, bx, by', hsz, hb0⟩ := start2 w #[.bool x.neg, .slice p x.num.length cp, .slice q x.den.length cq] #[.bool y.neg, .slice p' y.num.length cp', .slice q' y.den.length cq'] 25
  have HA := Lib.hid (hA.after hb0)
  have HA2 := Lib.hid (hB.after hb0)
  have HB0 := Lib.hid hb0
  have BX := Lib.hid bx
  have BY := Lib.hid by'
  clear h1 h2 h3 h4 hA hB hb0 bx by' hsz
  obtain ⟨X, hX⟩ : ∃ X, cut40 x = X := ⟨_, rfl⟩
  have HX := Lib.hid hX
  have HCX : Hid (cut40 X = X) := by show _ = _; rw [← HX.out, cut40_idem]
  obtain ⟨Y, hY⟩ : ∃ Y, cut40 y = Y := ⟨_, rfl⟩
  have HY := Lib.hid hY
  have HCY : Hid (cut40 Y = Y) := by show _ = _; rw [← HY.out, cut40_idem]
  clear hX hY
  go_enter Try.func6, Try.ntmps6
  go_upto_region 1 with fail
  rw [← hW]
  clear hW
  refine wp_region_gj (J := GJ _ (fun _ => SV (fun k => match k with | 1 => some X | 3 => some Y | _ => none) (fun k => match k with | 0 => some (.agg #[.bool x.neg, .slice p x.num.length cp, .slice q x.den.length cq]) | 2 => some (.agg #[.bool y.neg, .slice p' y.num.length cp', .slice q' y.den.length cq']) | _ => none)) (C2 W0 w.heap.size (w.heap.size + 1) X Y) _) (by kernel_rfl) ?_ ?_ (GJ.start C2.start)
  · intro listed a w9 i hr hj
    obtain ⟨hi12, hun, _, _, _⟩ := ready_mem hr
    have h12 : i ∈ List.range 6 := List.mem_range.2 hi12
    simp only [List.range, List.range.loop, List.mem_cons, List.not_mem_nil, or_false] at h12
    obtain ⟨f, rfl, hcm, hf⟩ := hj.opened [15, 16, 17, 18] (by kernel_rfl)
    have hcm : C2 W0 w.heap.size (w.heap.size + 1) X Y listed f w9 := hcm
    rcases h12 with rfl | rfl | rfl | rfl | rfl | rfl
    · have n4 : ¬ up listed 4 := fun h => not_up hun (hj.closed 4 0 h (by kernel_rfl))
      have bw := hcm.1 n4
      have bxw := BX.out.after bw
      have y0 := (Box.cells3 bxw).1
      have y1 := (Box.cells3 bxw).2.1
      have y2 := (Box.cells3 bxw).2.2
      have yl := bxw.lt
      clear bxw
      refine GJ.op hj (by kernel_rfl) hr rfl [15, 16, 17, 18] (by kernel_rfl) (fun K hK => ?_)
      simp only [Act.put, List.foldl_cons, List.foldl_nil, List.setIfInBounds_toArray, List.set_cons_zero, List.set_cons_succ] at hK ⊢
      clear hj hf
      go_simp
      exact hK _ _ (fun k v _ _ h => h.keep (Below.refl _ _)) (fun t ht => SV.eq rfl rfl) (hcm.keep (Below.refl _ _) (by omega) (by omega))
    · have n4 : ¬ up listed 4 := fun h => not_up hun (hj.closed 4 1 h (by kernel_rfl))
      have bw := hcm.1 n4
      have e1 : f 15 = .agg #[.bool x.neg, .slice p x.num.length cp, .slice q x.den.length cq] := (hf 0 _ _ rfl rfl (up_dep hr (by kernel_rfl))).2 _ rfl
      refine GJ.op hj (by kernel_rfl) hr rfl [15, 16, 17, 18] (by kernel_rfl) (fun K hK => ?_)
      simp only [Act.put, List.foldl_cons, List.foldl_nil, List.setIfInBounds_toArray, List.set_cons_zero, List.set_cons_succ] at hK ⊢
      clear hj hf
      rw [e1] at hK ⊢
      clear e1
      go_simp
      refine (own40_a w9 _ x (HA.out.after bw)).mono ?_
      rw [HX.out]
      rintro e w10 ⟨v10, rfl, hv10, hb10⟩
      exact hK _ _ (fun k v _ _ h => h.keep hb10) (fun t ht => SV.isF rfl rfl hv10) (hcm.keep hb10 (by omega) (by omega))
    · have n4 : ¬ up listed 4 := fun h => not_up hun (hj.closed 3 2 (hj.closed 4 3 h (by kernel_rfl)) (by kernel_rfl))
      have bw := hcm.1 n4
      have bxw := BY.out.after bw
      have y0 := (Box.cells3 bxw).1
      have y1 := (Box.cells3 bxw).2.1
      have y2 := (Box.cells3 bxw).2.2
      have yl := bxw.lt
      clear bxw
      refine GJ.op hj (by kernel_rfl) hr rfl [15, 16, 17, 18] (by kernel_rfl) (fun K hK => ?_)
      simp only [Act.put, List.foldl_cons, List.foldl_nil, List.setIfInBounds_toArray, List.set_cons_zero, List.set_cons_succ] at hK ⊢
      clear hj hf
      go_simp
      exact hK _ _ (fun k v _ _ h => h.keep (Below.refl _ _)) (fun t ht => SV.eq rfl rfl) (hcm.keep (Below.refl _ _) (by omega) (by omega))
    · have n4 : ¬ up listed 4 := fun h => not_up hun (hj.closed 4 3 h (by kernel_rfl))
      have bw := hcm.1 n4
      have e1 : f 17 = .agg #[.bool y.neg, .slice p' y.num.length cp', .slice q' y.den.length cq'] := (hf 2 _ _ rfl rfl (up_dep hr (by kernel_rfl))).2 _ rfl
      refine GJ.op hj (by kernel_rfl) hr rfl [15, 16, 17, 18] (by kernel_rfl) (fun K hK => ?_)
      simp only [Act.put, List.foldl_cons, List.foldl_nil, List.setIfInBounds_toArray, List.set_cons_zero, List.set_cons_succ] at hK ⊢
      clear hj hf
      rw [e1] at hK ⊢
      clear e1
      go_simp
      refine (own40_a w9 _ y (HA2.out.after bw)).mono ?_
      rw [HY.out]
      rintro e w10 ⟨v10, rfl, hv10, hb10⟩
      exact hK _ _ (fun k v _ _ h => h.keep hb10) (fun t ht => SV.isF rfl rfl hv10) (hcm.keep hb10 (by omega) (by omega))
    · have s1 : IsF w9 (f 16) X := (hf 1 _ _ rfl rfl (up_dep hr (by kernel_rfl))).1 _ rfl
      have bw := hcm.1 (not_up hun)
      have n4 : ¬ up listed 4 := not_up hun
      have n5 : ¬ up listed 5 := fun h => not_up hun (hj.closed 5 4 h (by kernel_rfl))
      have bxw := BX.out.after bw
      obtain ⟨ua, ub, e1, h1, h2⟩ := s1
      obtain ⟨pa, ca, rfl, _, _⟩ := h1.shape
      obtain ⟨pb, cb, rfl, _, _⟩ := h2.shape
      have hsz7 := hj.lsize
      have hlt : 4 < listed.size := by rw [hsz7]; decide
      refine GJ.op hj (by kernel_rfl) hr rfl [15, 16, 17, 18] (by kernel_rfl) (fun K hK => ?_)
      simp only [Act.put, List.foldl_cons, List.foldl_nil, List.setIfInBounds_toArray, List.set_cons_zero, List.set_cons_succ] at hK ⊢
      clear hj hf
      obtain ⟨zb, hzb⟩ : ∃ z, f 16 = z := ⟨_, rfl⟩
      rw [hzb] at hK ⊢ e1
      subst e1
      clear hzb
      have y0 := (Box.cells3 bxw).1
      have y1 := (Box.cells3 bxw).2.1
      have y2 := (Box.cells3 bxw).2.2
      have yl := bxw.lt
      have q0 := bxw.frozen 0
      have q1 := bxw.frozen 1
      have q2 := bxw.frozen 2
      have BXW := Lib.hid bxw
      clear bxw
      go_simp
      exact hK undef _ (fun k v _ _ h => h.fx (fx_set3 _ _ _ _) (Box.noT BXW.out)) (fun t ht => by cases ht) (hcm.put4 n4 n5 hlt BXW.out h1 h2)
    · have s1 : IsF w9 (f 18) Y := (hf 3 _ _ rfl rfl (up_dep hr (by kernel_rfl))).1 _ rfl
      have u4 : up listed 4 := up_dep hr (by kernel_rfl)
      have n5 : ¬ up listed 5 := not_up hun
      have bxw := Box.fx BY.out (hcm.2.1 u4 n5).1 (by omega)
      obtain ⟨ua, ub, e1, h1, h2⟩ := s1
      obtain ⟨pa, ca, rfl, _, _⟩ := h1.shape
      obtain ⟨pb, cb, rfl, _, _⟩ := h2.shape
      have hsz7 := hj.lsize
      have hlt : 5 < listed.size := by rw [hsz7]; decide
      refine GJ.op hj (by kernel_rfl) hr rfl [15, 16, 17, 18] (by kernel_rfl) (fun K hK => ?_)
      simp only [Act.put, List.foldl_cons, List.foldl_nil, List.setIfInBounds_toArray, List.set_cons_zero, List.set_cons_succ] at hK ⊢
      clear hj hf
      obtain ⟨zb, hzb⟩ : ∃ z, f 18 = z := ⟨_, rfl⟩
      rw [hzb] at hK ⊢ e1
      subst e1
      clear hzb
      have y0 := (Box.cells3 bxw).1
      have y1 := (Box.cells3 bxw).2.1
      have y2 := (Box.cells3 bxw).2.2
      have yl := bxw.lt
      have q0 := bxw.frozen 0
      have q1 := bxw.frozen 1
      have q2 := bxw.frozen 2
      have BXW := Lib.hid bxw
      clear bxw
      go_simp
      exact hK undef _ (fun k v _ _ h => h.fx (fx_set3 _ _ _ _) (Box.noT BXW.out)) (fun t ht => by cases ht) (hcm.put5 u4 n5 hlt (by omega) BXW.out h1 h2)
  · intro listed a w10 hr hj
    have hu : ∀ k, k < 6 → up listed k := fun k hk => all_up (by kernel_rfl) hj.lsize hr k hk
    obtain ⟨f, rfl, hcm, hf⟩ := hj.opened [15, 16, 17, 18] (by kernel_rfl)
    replace hcm : C2 W0 w.heap.size (w.heap.size + 1) X Y listed f w10 := hcm
    obtain ⟨hfx, hv1, hv2⟩ := hcm.2.2 (hu 5 (by omega))
    have HV1 := Lib.hid hv1
    have HV2 := Lib.hid hv2
    have HB : Hid (Below w.heap.size w w10) := HB0.out.trans (hfx.toBelow HB0.out.size (fun g e => by rcases e with e | e <;> omega))
    clear hf hj hr hu hfx hv1 hv2 hcm HA HA2 HX HY BX BY HB0
    simp only [List.foldl_cons, List.foldl_nil, List.setIfInBounds_toArray, List.set_cons_zero, List.set_cons_succ]
    generalize f 15 = g15
    generalize f 16 = g16
    generalize f 17 = g17
    generalize f 18 = g18
    clear f
    obtain ⟨va, vb, hbx, h1, h2⟩ := HV1.out
    obtain ⟨pX, mX, rfl, _, _⟩ := h1.shape
    obtain ⟨qX, nX, rfl, _, _⟩ := h2.shape
    have CX := Lib.hid hbx
    have FX := Lib.hid (IsF.at_ h1 h2)
    clear hbx h1 h2
    obtain ⟨va, vb, hbx, h1, h2⟩ := HV2.out
    obtain ⟨pY, mY, rfl, _, _⟩ := h1.shape
    obtain ⟨qY, nY, rfl, _, _⟩ := h2.shape
    have CY := Lib.hid hbx
    have FY := Lib.hid (IsF.at_ h1 h2)
    clear hbx h1 h2
    obtain ⟨S, hS⟩ : ∃ S, simplestF X Y = S := ⟨_, rfl⟩
    have HS := Lib.hid hS
    clear hS
    obtain ⟨T, hT⟩ : ∃ T, nearF X den = T := ⟨_, rfl⟩
    have HT := Lib.hid hT
    clear hT
    obtain ⟨cX0, cX1, cX2⟩ := CX.out.cells3
    have ltX := CX.out.lt
    obtain ⟨cY0, cY1, cY2⟩ := CY.out.cells3
    have ltY := CY.out.lt
    go_wp2_with fail
    refine (Simplest_c _ _ _ X Y FX.out FY.out).mono ?_
    rw [HS.out]
    rintro e w11 ⟨v, rfl, hv, hb11⟩
    have hv : IsF _ v (S.1) := hv
    obtain ⟨va, vb, rfl, h1, h2⟩ := hv
    obtain ⟨pA, mA, rfl, _, _⟩ := h1.shape
    obtain ⟨qA, nA, rfl, _, _⟩ := h2.shape
    have FA := Lib.hid (IsF.at_ h1 h2)
    clear h1 h2
    clear cX0 cX1 cX2 ltX cY0 cY1 cY2 ltY
    replace CX := Lib.hid (CX.out.after hb11)
    replace CY := Lib.hid (CY.out.after hb11)
    replace FX := Lib.hid (FX.out.after hb11)
    replace FY := Lib.hid (FY.out.after hb11)
    replace HB := Lib.hid (HB.out.trans (hb11.mono HB.out.size))
    clear hb11
    have d_X_A : w.heap.size < w11.heap.size := CX.out.lt
    have d_Y_A : (w.heap.size + 1) < w11.heap.size := CY.out.lt
    have g_A : w.heap.size ≤ w11.heap.size := by have := HB.out.size; omega
    obtain ⟨cX0, cX1, cX2⟩ := CX.out.cells3
    have ltX := CX.out.lt
    obtain ⟨cY0, cY1, cY2⟩ := CY.out.cells3
    have ltY := CY.out.lt
    go_wp2_with fail
    refine (rSimplest_c _ _ _ X Y (FX.out.alloc _) (FY.out.alloc _)).mono ?_
    rw [HS.out]
    rintro e w12 ⟨v, rfl, hv, hb12⟩
    have hv : IsF _ v (S.1) := hv
    obtain ⟨va, vb, rfl, h1, h2⟩ := hv
    obtain ⟨pB, mB, rfl, _, _⟩ := h1.shape
    obtain ⟨qB, nB, rfl, _, _⟩ := h2.shape
    have FB := Lib.hid (IsF.at_ h1 h2)
    clear h1 h2
    clear cX0 cX1 cX2 ltX cY0 cY1 cY2 ltY
    obtain ⟨hb12, CA⟩ := after_new hb12
    replace CA := Lib.hid CA
    replace CX := Lib.hid (CX.out.after hb12)
    replace CY := Lib.hid (CY.out.after hb12)
    replace FX := Lib.hid (FX.out.after hb12)
    replace FY := Lib.hid (FY.out.after hb12)
    replace FA := Lib.hid (FA.out.after hb12)
    replace HB := Lib.hid (HB.out.trans (hb12.mono HB.out.size))
    clear hb12
    have d_X_B : w.heap.size < w12.heap.size := CX.out.lt
    have d_Y_B : (w.heap.size + 1) < w12.heap.size := CY.out.lt
    have d_A_B : w11.heap.size < w12.heap.size := CA.out.lt
    have g_B : w.heap.size ≤ w12.heap.size := by have := HB.out.size; omega
    obtain ⟨cX0, cX1, cX2⟩ := CX.out.cells3
    have ltX := CX.out.lt
    obtain ⟨cY0, cY1, cY2⟩ := CY.out.cells3
    have ltY := CY.out.lt
    obtain ⟨cA0, cA1, cA2⟩ := CA.out.cells3
    have ltA := CA.out.lt
    go_wp2_with fail
    refine (Nearest_c _ _ X den (FX.out.alloc _) (by omega) (by omega)).mono ?_
    rw [HT.out]
    rintro e w13 ⟨v, rfl, hv, hb13⟩
    have hv : IsF _ v (T.1) := hv
    obtain ⟨va, vb, rfl, h1, h2⟩ := hv
    obtain ⟨pC, mC, rfl, _, _⟩ := h1.shape
    obtain ⟨qC, nC, rfl, _, _⟩ := h2.shape
    have FC := Lib.hid (IsF.at_ h1 h2)
    clear h1 h2
    clear cX0 cX1 cX2 ltX cY0 cY1 cY2 ltY cA0 cA1 cA2 ltA
    obtain ⟨hb13, CB⟩ := after_new hb13
    replace CB := Lib.hid CB
    replace CX := Lib.hid (CX.out.after hb13)
    replace CY := Lib.hid (CY.out.after hb13)
    replace CA := Lib.hid (CA.out.after hb13)
    replace FX := Lib.hid (FX.out.after hb13)
    replace FY := Lib.hid (FY.out.after hb13)
    replace FA := Lib.hid (FA.out.after hb13)
    replace FB := Lib.hid (FB.out.after hb13)
    replace HB := Lib.hid (HB.out.trans (hb13.mono HB.out.size))
    clear hb13
    have d_X_C : w.heap.size < w13.heap.size := CX.out.lt
    have d_Y_C : (w.heap.size + 1) < w13.heap.size := CY.out.lt
    have d_A_C : w11.heap.size < w13.heap.size := CA.out.lt
    have d_B_C : w12.heap.size < w13.heap.size := CB.out.lt
    have g_C : w.heap.size ≤ w13.heap.size := by have := HB.out.size; omega
    obtain ⟨cX0, cX1, cX2⟩ := CX.out.cells3
    have ltX := CX.out.lt
    obtain ⟨cY0, cY1, cY2⟩ := CY.out.cells3
    have ltY := CY.out.lt
    obtain ⟨cA0, cA1, cA2⟩ := CA.out.cells3
    have ltA := CA.out.lt
    obtain ⟨cB0, cB1, cB2⟩ := CB.out.cells3
    have ltB := CB.out.lt
    go_wp2_with fail
    refine (rNearest_c _ _ X den (FX.out.alloc _)).mono ?_
    rw [HT.out]
    rintro e w14 ⟨v, rfl, hv, hb14⟩
    have hv : IsF _ v (T.1) := hv
    obtain ⟨va, vb, rfl, h1, h2⟩ := hv
    obtain ⟨pD, mD, rfl, _, _⟩ := h1.shape
    obtain ⟨qD, nD, rfl, _, _⟩ := h2.shape
    have FD := Lib.hid (IsF.at_ h1 h2)
    clear h1 h2
    clear cX0 cX1 cX2 ltX cY0 cY1 cY2 ltY cA0 cA1 cA2 ltA cB0 cB1 cB2 ltB
    obtain ⟨hb14, CC⟩ := after_new hb14
    replace CC := Lib.hid CC
    replace CX := Lib.hid (CX.out.after hb14)
    replace CY := Lib.hid (CY.out.after hb14)
    replace CA := Lib.hid (CA.out.after hb14)
    replace CB := Lib.hid (CB.out.after hb14)
    replace FX := Lib.hid (FX.out.after hb14)
    replace FY := Lib.hid (FY.out.after hb14)
    replace FA := Lib.hid (FA.out.after hb14)
    replace FB := Lib.hid (FB.out.after hb14)
    replace FC := Lib.hid (FC.out.after hb14)
    replace HB := Lib.hid (HB.out.trans (hb14.mono HB.out.size))
    clear hb14
    have d_X_D : w.heap.size < w14.heap.size := CX.out.lt
    have d_Y_D : (w.heap.size + 1) < w14.heap.size := CY.out.lt
    have d_A_D : w11.heap.size < w14.heap.size := CA.out.lt
    have d_B_D : w12.heap.size < w14.heap.size := CB.out.lt
    have d_C_D : w13.heap.size < w14.heap.size := CC.out.lt
    have g_D : w.heap.size ≤ w14.heap.size := by have := HB.out.size; omega
    obtain ⟨cX0, cX1, cX2⟩ := CX.out.cells3
    have ltX := CX.out.lt
    obtain ⟨cY0, cY1, cY2⟩ := CY.out.cells3
    have ltY := CY.out.lt
    obtain ⟨cA0, cA1, cA2⟩ := CA.out.cells3
    have ltA := CA.out.lt
    obtain ⟨cB0, cB1, cB2⟩ := CB.out.cells3
    have ltB := CB.out.lt
    obtain ⟨cC0, cC1, cC2⟩ := CC.out.cells3
    have ltC := CC.out.lt
    go_wp2_with fail
    refine (same_c _ _ _ S.2 S.1 (FA.out.alloc _) (FB.out.alloc _)).mono ?_
    rintro e w15 ⟨rfl, hb15⟩
    clear cX0 cX1 cX2 ltX cY0 cY1 cY2 ltY cA0 cA1 cA2 ltA cB0 cB1 cB2 ltB cC0 cC1 cC2 ltC
    obtain ⟨hb15, CD⟩ := after_new hb15
    replace CD := Lib.hid CD
    replace CX := Lib.hid (CX.out.after hb15)
    replace CY := Lib.hid (CY.out.after hb15)
    replace CA := Lib.hid (CA.out.after hb15)
    replace CB := Lib.hid (CB.out.after hb15)
    replace CC := Lib.hid (CC.out.after hb15)
    replace FX := Lib.hid (FX.out.after hb15)
    replace FY := Lib.hid (FY.out.after hb15)
    replace FA := Lib.hid (FA.out.after hb15)
    replace FB := Lib.hid (FB.out.after hb15)
    replace FC := Lib.hid (FC.out.after hb15)
    replace FD := Lib.hid (FD.out.after hb15)
    replace HB := Lib.hid (HB.out.trans (hb15.mono HB.out.size))
    clear hb15
    obtain ⟨cX0, cX1, cX2⟩ := CX.out.cells3
    have ltX := CX.out.lt
    obtain ⟨cY0, cY1, cY2⟩ := CY.out.cells3
    have ltY := CY.out.lt
    obtain ⟨cA0, cA1, cA2⟩ := CA.out.cells3
    have ltA := CA.out.lt
    obtain ⟨cB0, cB1, cB2⟩ := CB.out.cells3
    have ltB := CB.out.lt
    obtain ⟨cC0, cC1, cC2⟩ := CC.out.cells3
    have ltC := CC.out.lt
    obtain ⟨cD0, cD1, cD2⟩ := CD.out.cells3
    have ltD := CD.out.lt
    go_wp2_with fail
    refine (same_c _ _ _ T.2 T.1 FC.out FD.out).mono ?_
    rintro e w16 ⟨rfl, hb16⟩
    clear cX0 cX1 cX2 ltX cY0 cY1 cY2 ltY cA0 cA1 cA2 ltA cB0 cB1 cB2 ltB cC0 cC1 cC2 ltC cD0 cD1 cD2 ltD
    replace CX := Lib.hid (CX.out.after hb16)
    replace CY := Lib.hid (CY.out.after hb16)
    replace CA := Lib.hid (CA.out.after hb16)
    replace CB := Lib.hid (CB.out.after hb16)
    replace CC := Lib.hid (CC.out.after hb16)
    replace CD := Lib.hid (CD.out.after hb16)
    replace FX := Lib.hid (FX.out.after hb16)
    replace FY := Lib.hid (FY.out.after hb16)
    replace FA := Lib.hid (FA.out.after hb16)
    replace FB := Lib.hid (FB.out.after hb16)
    replace FC := Lib.hid (FC.out.after hb16)
    replace FD := Lib.hid (FD.out.after hb16)
    replace HB := Lib.hid (HB.out.trans (hb16.mono HB.out.size))
    clear hb16
    obtain ⟨cX0, cX1, cX2⟩ := CX.out.cells3
    have ltX := CX.out.lt
    obtain ⟨cY0, cY1, cY2⟩ := CY.out.cells3
    have ltY := CY.out.lt
    obtain ⟨cA0, cA1, cA2⟩ := CA.out.cells3
    have ltA := CA.out.lt
    obtain ⟨cB0, cB1, cB2⟩ := CB.out.cells3
    have ltB := CB.out.lt
    obtain ⟨cC0, cC1, cC2⟩ := CC.out.cells3
    have ltC := CC.out.lt
    obtain ⟨cD0, cD1, cD2⟩ := CD.out.cells3
    have ltD := CD.out.lt
    go_wp2_with fail
    refine (rworks_c _).mono ?_
    rintro e w17 ⟨rfl, hb17⟩
    clear cX0 cX1 cX2 ltX cY0 cY1 cY2 ltY cA0 cA1 cA2 ltA cB0 cB1 cB2 ltB cC0 cC1 cC2 ltC cD0 cD1 cD2 ltD
    replace CX := Lib.hid (CX.out.after hb17)
    replace CY := Lib.hid (CY.out.after hb17)
    replace CA := Lib.hid (CA.out.after hb17)
    replace CB := Lib.hid (CB.out.after hb17)
    replace CC := Lib.hid (CC.out.after hb17)
    replace CD := Lib.hid (CD.out.after hb17)
    replace FX := Lib.hid (FX.out.after hb17)
    replace FY := Lib.hid (FY.out.after hb17)
    replace FA := Lib.hid (FA.out.after hb17)
    replace FB := Lib.hid (FB.out.after hb17)
    replace FC := Lib.hid (FC.out.after hb17)
    replace FD := Lib.hid (FD.out.after hb17)
    replace HB := Lib.hid (HB.out.trans (hb17.mono HB.out.size))
    clear hb17
    obtain ⟨cX0, cX1, cX2⟩ := CX.out.cells3
    have ltX := CX.out.lt
    obtain ⟨cY0, cY1, cY2⟩ := CY.out.cells3
    have ltY := CY.out.lt
    obtain ⟨cA0, cA1, cA2⟩ := CA.out.cells3
    have ltA := CA.out.lt
    obtain ⟨cB0, cB1, cB2⟩ := CB.out.cells3
    have ltB := CB.out.lt
    obtain ⟨cC0, cC1, cC2⟩ := CC.out.cells3
    have ltC := CC.out.lt
    obtain ⟨cD0, cD1, cD2⟩ := CD.out.cells3
    have ltD := CD.out.lt
    go_wp2_with fail
    go_ret
    exact ⟨rfl, HB.out⟩
set_option maxRecDepth 100000 in
set_option maxHeartbeats 16000000 in
theorem seeks_mid (w : World) (v u : Value) (x y : F) (den : Int) (h : IsFA w v x) (k : IsFA w u y) (n0 : -9223372036854775808 ≤ den) (n1 : den ≤ 9223372036854775807) (hd : 100 < den) (hd2 : den < 1000) :
    Calls Try.prog 6 #[v, u, .int .i64 den] w fun e w' => e = .returned (.bool true) ∧ Below w.heap.size w w' := by
  have hb1 : decide (100 < den) = true := decide_eq_true hd
  have hb2 : decide (den < 1000) = true := decide_eq_true hd2
  obtain ⟨va, vb, rfl, h1, h2⟩ := h
  obtain ⟨p, cp, rfl, hp1, hp2⟩ := h1.shape
  obtain ⟨q, cq, rfl, hq1, hq2⟩ := h2.shape
  obtain ⟨vc, vd, rfl, h3, h4⟩ := k
  obtain ⟨p', cp', rfl, hp3, hp4⟩ := h3.shape
  obtain ⟨q', cq', rfl, hq3, hq4⟩ := h4.shape
  have hA : IsFA w (.agg #[.bool x.neg, .slice p x.num.length cp, .slice q x.den.length cq]) x := ⟨_, _, rfl, h1, h2⟩
  have hB : IsFA w (.agg #[.bool y.neg, .slice p' y.num.length cp', .slice q' y.den.length cq']) y := ⟨_, _, rfl, h3, h4⟩
  obtain ⟨W0, hW, bx, by', hsz, hb0⟩ := start2 w #[.bool x.neg, .slice p x.num.length cp, .slice q x.den.length cq] #[.bool y.neg, .slice p' y.num.length cp', .slice q' y.den.length cq'] 25
  have HA := Lib.hid (hA.after hb0)
  have HA2 := Lib.hid (hB.after hb0)
  have HB0 := Lib.hid hb0
  have BX := Lib.hid bx
  have BY := Lib.hid by'
  clear h1 h2 h3 h4 hA hB hb0 bx by' hsz
  obtain ⟨X, hX⟩ : ∃ X, cut40 x = X := ⟨_, rfl⟩
  have HX := Lib.hid hX
  have HCX : Hid (cut40 X = X) := by show _ = _; rw [← HX.out, cut40_idem]
  obtain ⟨Y, hY⟩ : ∃ Y, cut40 y = Y := ⟨_, rfl⟩
  have HY := Lib.hid hY
  have HCY : Hid (cut40 Y = Y) := by show _ = _; rw [← HY.out, cut40_idem]
  clear hX hY
  go_enter Try.func6, Try.ntmps6
  go_upto_region 1 with fail
  rw [← hW]
  clear hW
  refine wp_region_gj (J := GJ _ (fun _ => SV (fun k => match k with | 1 => some X | 3 => some Y | _ => none) (fun k => match k with | 0 => some (.agg #[.bool x.neg, .slice p x.num.length cp, .slice q x.den.length cq]) | 2 => some (.agg #[.bool y.neg, .slice p' y.num.length cp', .slice q' y.den.length cq']) | _ => none)) (C2 W0 w.heap.size (w.heap.size + 1) X Y) _) (by kernel_rfl) ?_ ?_ (GJ.start C2.start)
  · intro listed a w9 i hr hj
    obtain ⟨hi12, hun, _, _, _⟩ := ready_mem hr
    have h12 : i ∈ List.range 6 := List.mem_range.2 hi12
    simp only [List.range, List.range.loop, List.mem_cons, List.not_mem_nil, or_false] at h12
    obtain ⟨f, rfl, hcm, hf⟩ := hj.opened [15, 16, 17, 18] (by kernel_rfl)
    have hcm : C2 W0 w.heap.size (w.heap.size + 1) X Y listed f w9 := hcm
    rcases h12 with rfl | rfl | rfl | rfl | rfl | rfl
    · have n4 : ¬ up listed 4 := fun h => not_up hun (hj.closed 4 0 h (by kernel_rfl))
      have bw := hcm.1 n4
      have bxw := BX.out.after bw
      have y0 := (Box.cells3 bxw).1
      have y1 := (Box.cells3 bxw).2.1
      have y2 := (Box.cells3 bxw).2.2
      have yl := bxw.lt
      clear bxw
      refine GJ.op hj (by kernel_rfl) hr rfl [15, 16, 17, 18] (by kernel_rfl) (fun K hK => ?_)
      simp only [Act.put, List.foldl_cons, List.foldl_nil, List.setIfInBounds_toArray, List.set_cons_zero, List.set_cons_succ] at hK ⊢
      clear hj hf
      go_simp
      exact hK _ _ (fun k v _ _ h => h.keep (Below.refl _ _)) (fun t ht => SV.eq rfl rfl) (hcm.keep (Below.refl _ _) (by omega) (by omega))
    · have n4 : ¬ up listed 4 := fun h => not_up hun (hj.closed 4 1 h (by kernel_rfl))
      have bw := hcm.1 n4
      have e1 : f 15 = .agg #[.bool x.neg, .slice p x.num.length cp, .slice q x.den.length cq] := (hf 0 _ _ rfl rfl (up_dep hr (by kernel_rfl))).2 _ rfl
      refine GJ.op hj (by kernel_rfl) hr rfl [15, 16, 17, 18] (by kernel_rfl) (fun K hK => ?_)
      simp only [Act.put, List.foldl_cons, List.foldl_nil, List.setIfInBounds_toArray, List.set_cons_zero, List.set_cons_succ] at hK ⊢
      clear hj hf
      rw [e1] at hK ⊢
      clear e1
      go_simp
      refine (own40_a w9 _ x (HA.out.after bw)).mono ?_
      rw [HX.out]
      rintro e w10 ⟨v10, rfl, hv10, hb10⟩
      exact hK _ _ (fun k v _ _ h => h.keep hb10) (fun t ht => SV.isF rfl rfl hv10) (hcm.keep hb10 (by omega) (by omega))
    · have n4 : ¬ up listed 4 := fun h => not_up hun (hj.closed 3 2 (hj.closed 4 3 h (by kernel_rfl)) (by kernel_rfl))
      have bw := hcm.1 n4
      have bxw := BY.out.after bw
      have y0 := (Box.cells3 bxw).1
      have y1 := (Box.cells3 bxw).2.1
      have y2 := (Box.cells3 bxw).2.2
      have yl := bxw.lt
      clear bxw
      refine GJ.op hj (by kernel_rfl) hr rfl [15, 16, 17, 18] (by kernel_rfl) (fun K hK => ?_)
      simp only [Act.put, List.foldl_cons, List.foldl_nil, List.setIfInBounds_toArray, List.set_cons_zero, List.set_cons_succ] at hK ⊢
      clear hj hf
      go_simp
      exact hK _ _ (fun k v _ _ h => h.keep (Below.refl _ _)) (fun t ht => SV.eq rfl rfl) (hcm.keep (Below.refl _ _) (by omega) (by omega))
    · have n4 : ¬ up listed 4 := fun h => not_up hun (hj.closed 4 3 h (by kernel_rfl))
      have bw := hcm.1 n4
      have e1 : f 17 = .agg #[.bool y.neg, .slice p' y.num.length cp', .slice q' y.den.length cq'] := (hf 2 _ _ rfl rfl (up_dep hr (by kernel_rfl))).2 _ rfl
      refine GJ.op hj (by kernel_rfl) hr rfl [15, 16, 17, 18] (by kernel_rfl) (fun K hK => ?_)
      simp only [Act.put, List.foldl_cons, List.foldl_nil, List.setIfInBounds_toArray, List.set_cons_zero, List.set_cons_succ] at hK ⊢
      clear hj hf
      rw [e1] at hK ⊢
      clear e1
      go_simp
      refine (own40_a w9 _ y (HA2.out.after bw)).mono ?_
      rw [HY.out]
      rintro e w10 ⟨v10, rfl, hv10, hb10⟩
      exact hK _ _ (fun k v _ _ h => h.keep hb10) (fun t ht => SV.isF rfl rfl hv10) (hcm.keep hb10 (by omega) (by omega))
    · have s1 : IsF w9 (f 16) X := (hf 1 _ _ rfl rfl (up_dep hr (by kernel_rfl))).1 _ rfl
      have bw := hcm.1 (not_up hun)
      have n4 : ¬ up listed 4 := not_up hun
      have n5 : ¬ up listed 5 := fun h => not_up hun (hj.closed 5 4 h (by kernel_rfl))
      have bxw := BX.out.after bw
      obtain ⟨ua, ub, e1, h1, h2⟩ := s1
      obtain ⟨pa, ca, rfl, _, _⟩ := h1.shape
      obtain ⟨pb, cb, rfl, _, _⟩ := h2.shape
      have hsz7 := hj.lsize
      have hlt : 4 < listed.size := by rw [hsz7]; decide
      refine GJ.op hj (by kernel_rfl) hr rfl [15, 16, 17, 18] (by kernel_rfl) (fun K hK => ?_)
      simp only [Act.put, List.foldl_cons, List.foldl_nil, List.setIfInBounds_toArray, List.set_cons_zero, List.set_cons_succ] at hK ⊢
      clear hj hf
      obtain ⟨zb, hzb⟩ : ∃ z, f 16 = z := ⟨_, rfl⟩
      rw [hzb] at hK ⊢ e1
      subst e1
      clear hzb
      have y0 := (Box.cells3 bxw).1
      have y1 := (Box.cells3 bxw).2.1
      have y2 := (Box.cells3 bxw).2.2
      have yl := bxw.lt
      have q0 := bxw.frozen 0
      have q1 := bxw.frozen 1
      have q2 := bxw.frozen 2
      have BXW := Lib.hid bxw
      clear bxw
      go_simp
      exact hK undef _ (fun k v _ _ h => h.fx (fx_set3 _ _ _ _) (Box.noT BXW.out)) (fun t ht => by cases ht) (hcm.put4 n4 n5 hlt BXW.out h1 h2)
    · have s1 : IsF w9 (f 18) Y := (hf 3 _ _ rfl rfl (up_dep hr (by kernel_rfl))).1 _ rfl
      have u4 : up listed 4 := up_dep hr (by kernel_rfl)
      have n5 : ¬ up listed 5 := not_up hun
      have bxw := Box.fx BY.out (hcm.2.1 u4 n5).1 (by omega)
      obtain ⟨ua, ub, e1, h1, h2⟩ := s1
      obtain ⟨pa, ca, rfl, _, _⟩ := h1.shape
      obtain ⟨pb, cb, rfl, _, _⟩ := h2.shape
      have hsz7 := hj.lsize
      have hlt : 5 < listed.size := by rw [hsz7]; decide
      refine GJ.op hj (by kernel_rfl) hr rfl [15, 16, 17, 18] (by kernel_rfl) (fun K hK => ?_)
      simp only [Act.put, List.foldl_cons, List.foldl_nil, List.setIfInBounds_toArray, List.set_cons_zero, List.set_cons_succ] at hK ⊢
      clear hj hf
      obtain ⟨zb, hzb⟩ : ∃ z, f 18 = z := ⟨_, rfl⟩
      rw [hzb] at hK ⊢ e1
      subst e1
      clear hzb
      have y0 := (Box.cells3 bxw).1
      have y1 := (Box.cells3 bxw).2.1
      have y2 := (Box.cells3 bxw).2.2
      have yl := bxw.lt
      have q0 := bxw.frozen 0
      have q1 := bxw.frozen 1
      have q2 := bxw.frozen 2
      have BXW := Lib.hid bxw
      clear bxw
      go_simp
      exact hK undef _ (fun k v _ _ h => h.fx (fx_set3 _ _ _ _) (Box.noT BXW.out)) (fun t ht => by cases ht) (hcm.put5 u4 n5 hlt (by omega) BXW.out h1 h2)
  · intro listed a w10 hr hj
    have hu : ∀ k, k < 6 → up listed k := fun k hk => all_up (by kernel_rfl) hj.lsize hr k hk
    obtain ⟨f, rfl, hcm, hf⟩ := hj.opened [15, 16, 17, 18] (by kernel_rfl)
    replace hcm : C2 W0 w.heap.size (w.heap.size + 1) X Y listed f w10 := hcm
    obtain ⟨hfx, hv1, hv2⟩ := hcm.2.2 (hu 5 (by omega))
    have HV1 := Lib.hid hv1
    have HV2 := Lib.hid hv2
    have HB : Hid (Below w.heap.size w w10) := HB0.out.trans (hfx.toBelow HB0.out.size (fun g e => by rcases e with e | e <;> omega))
    clear hf hj hr hu hfx hv1 hv2 hcm HA HA2 HX HY BX BY HB0
    simp only [List.foldl_cons, List.foldl_nil, List.setIfInBounds_toArray, List.set_cons_zero, List.set_cons_succ]
    generalize f 15 = g15
    generalize f 16 = g16
    generalize f 17 = g17
    generalize f 18 = g18
    clear f
    obtain ⟨va, vb, hbx, h1, h2⟩ := HV1.out
    obtain ⟨pX, mX, rfl, _, _⟩ := h1.shape
    obtain ⟨qX, nX, rfl, _, _⟩ := h2.shape
    have CX := Lib.hid hbx
    have FX := Lib.hid (IsF.at_ h1 h2)
    clear hbx h1 h2
    obtain ⟨va, vb, hbx, h1, h2⟩ := HV2.out
    obtain ⟨pY, mY, rfl, _, _⟩ := h1.shape
    obtain ⟨qY, nY, rfl, _, _⟩ := h2.shape
    have CY := Lib.hid hbx
    have FY := Lib.hid (IsF.at_ h1 h2)
    clear hbx h1 h2
    obtain ⟨S, hS⟩ : ∃ S, simplestF X Y = S := ⟨_, rfl⟩
    have HS := Lib.hid hS
    clear hS
    obtain ⟨T, hT⟩ : ∃ T, nearF X 100 = T := ⟨_, rfl⟩
    have HT := Lib.hid hT
    clear hT
    obtain ⟨cX0, cX1, cX2⟩ := CX.out.cells3
    have ltX := CX.out.lt
    obtain ⟨cY0, cY1, cY2⟩ := CY.out.cells3
    have ltY := CY.out.lt
    go_wp2_with fail
    refine (Simplest_c _ _ _ X Y FX.out FY.out).mono ?_
    rw [HS.out]
    rintro e w11 ⟨v, rfl, hv, hb11⟩
    have hv : IsF _ v (S.1) := hv
    obtain ⟨va, vb, rfl, h1, h2⟩ := hv
    obtain ⟨pA, mA, rfl, _, _⟩ := h1.shape
    obtain ⟨qA, nA, rfl, _, _⟩ := h2.shape
    have FA := Lib.hid (IsF.at_ h1 h2)
    clear h1 h2
    clear cX0 cX1 cX2 ltX cY0 cY1 cY2 ltY
    replace CX := Lib.hid (CX.out.after hb11)
    replace CY := Lib.hid (CY.out.after hb11)
    replace FX := Lib.hid (FX.out.after hb11)
    replace FY := Lib.hid (FY.out.after hb11)
    replace HB := Lib.hid (HB.out.trans (hb11.mono HB.out.size))
    clear hb11
    have d_X_A : w.heap.size < w11.heap.size := CX.out.lt
    have d_Y_A : (w.heap.size + 1) < w11.heap.size := CY.out.lt
    have g_A : w.heap.size ≤ w11.heap.size := by have := HB.out.size; omega
    obtain ⟨cX0, cX1, cX2⟩ := CX.out.cells3
    have ltX := CX.out.lt
    obtain ⟨cY0, cY1, cY2⟩ := CY.out.cells3
    have ltY := CY.out.lt
    go_wp2_with fail
    refine (rSimplest_c _ _ _ X Y (FX.out.alloc _) (FY.out.alloc _)).mono ?_
    rw [HS.out]
    rintro e w12 ⟨v, rfl, hv, hb12⟩
    have hv : IsF _ v (S.1) := hv
    obtain ⟨va, vb, rfl, h1, h2⟩ := hv
    obtain ⟨pB, mB, rfl, _, _⟩ := h1.shape
    obtain ⟨qB, nB, rfl, _, _⟩ := h2.shape
    have FB := Lib.hid (IsF.at_ h1 h2)
    clear h1 h2
    clear cX0 cX1 cX2 ltX cY0 cY1 cY2 ltY
    obtain ⟨hb12, CA⟩ := after_new hb12
    replace CA := Lib.hid CA
    replace CX := Lib.hid (CX.out.after hb12)
    replace CY := Lib.hid (CY.out.after hb12)
    replace FX := Lib.hid (FX.out.after hb12)
    replace FY := Lib.hid (FY.out.after hb12)
    replace FA := Lib.hid (FA.out.after hb12)
    replace HB := Lib.hid (HB.out.trans (hb12.mono HB.out.size))
    clear hb12
    have d_X_B : w.heap.size < w12.heap.size := CX.out.lt
    have d_Y_B : (w.heap.size + 1) < w12.heap.size := CY.out.lt
    have d_A_B : w11.heap.size < w12.heap.size := CA.out.lt
    have g_B : w.heap.size ≤ w12.heap.size := by have := HB.out.size; omega
    obtain ⟨cX0, cX1, cX2⟩ := CX.out.cells3
    have ltX := CX.out.lt
    obtain ⟨cY0, cY1, cY2⟩ := CY.out.cells3
    have ltY := CY.out.lt
    obtain ⟨cA0, cA1, cA2⟩ := CA.out.cells3
    have ltA := CA.out.lt
    go_wp2_with fail
    refine (Nearest_c _ _ X 100 (FX.out.alloc _) (by omega) (by omega)).mono ?_
    rw [HT.out]
    rintro e w13 ⟨v, rfl, hv, hb13⟩
    have hv : IsF _ v (T.1) := hv
    obtain ⟨va, vb, rfl, h1, h2⟩ := hv
    obtain ⟨pC, mC, rfl, _, _⟩ := h1.shape
    obtain ⟨qC, nC, rfl, _, _⟩ := h2.shape
    have FC := Lib.hid (IsF.at_ h1 h2)
    clear h1 h2
    clear cX0 cX1 cX2 ltX cY0 cY1 cY2 ltY cA0 cA1 cA2 ltA
    obtain ⟨hb13, CB⟩ := after_new hb13
    replace CB := Lib.hid CB
    replace CX := Lib.hid (CX.out.after hb13)
    replace CY := Lib.hid (CY.out.after hb13)
    replace CA := Lib.hid (CA.out.after hb13)
    replace FX := Lib.hid (FX.out.after hb13)
    replace FY := Lib.hid (FY.out.after hb13)
    replace FA := Lib.hid (FA.out.after hb13)
    replace FB := Lib.hid (FB.out.after hb13)
    replace HB := Lib.hid (HB.out.trans (hb13.mono HB.out.size))
    clear hb13
    have d_X_C : w.heap.size < w13.heap.size := CX.out.lt
    have d_Y_C : (w.heap.size + 1) < w13.heap.size := CY.out.lt
    have d_A_C : w11.heap.size < w13.heap.size := CA.out.lt
    have d_B_C : w12.heap.size < w13.heap.size := CB.out.lt
    have g_C : w.heap.size ≤ w13.heap.size := by have := HB.out.size; omega
    obtain ⟨cX0, cX1, cX2⟩ := CX.out.cells3
    have ltX := CX.out.lt
    obtain ⟨cY0, cY1, cY2⟩ := CY.out.cells3
    have ltY := CY.out.lt
    obtain ⟨cA0, cA1, cA2⟩ := CA.out.cells3
    have ltA := CA.out.lt
    obtain ⟨cB0, cB1, cB2⟩ := CB.out.cells3
    have ltB := CB.out.lt
    go_wp2_with fail
    refine (rNearest_c _ _ X 100 (FX.out.alloc _)).mono ?_
    rw [HT.out]
    rintro e w14 ⟨v, rfl, hv, hb14⟩
    have hv : IsF _ v (T.1) := hv
    obtain ⟨va, vb, rfl, h1, h2⟩ := hv
    obtain ⟨pD, mD, rfl, _, _⟩ := h1.shape
    obtain ⟨qD, nD, rfl, _, _⟩ := h2.shape
    have FD := Lib.hid (IsF.at_ h1 h2)
    clear h1 h2
    clear cX0 cX1 cX2 ltX cY0 cY1 cY2 ltY cA0 cA1 cA2 ltA cB0 cB1 cB2 ltB
    obtain ⟨hb14, CC⟩ := after_new hb14
    replace CC := Lib.hid CC
    replace CX := Lib.hid (CX.out.after hb14)
    replace CY := Lib.hid (CY.out.after hb14)
    replace CA := Lib.hid (CA.out.after hb14)
    replace CB := Lib.hid (CB.out.after hb14)
    replace FX := Lib.hid (FX.out.after hb14)
    replace FY := Lib.hid (FY.out.after hb14)
    replace FA := Lib.hid (FA.out.after hb14)
    replace FB := Lib.hid (FB.out.after hb14)
    replace FC := Lib.hid (FC.out.after hb14)
    replace HB := Lib.hid (HB.out.trans (hb14.mono HB.out.size))
    clear hb14
    have d_X_D : w.heap.size < w14.heap.size := CX.out.lt
    have d_Y_D : (w.heap.size + 1) < w14.heap.size := CY.out.lt
    have d_A_D : w11.heap.size < w14.heap.size := CA.out.lt
    have d_B_D : w12.heap.size < w14.heap.size := CB.out.lt
    have d_C_D : w13.heap.size < w14.heap.size := CC.out.lt
    have g_D : w.heap.size ≤ w14.heap.size := by have := HB.out.size; omega
    obtain ⟨cX0, cX1, cX2⟩ := CX.out.cells3
    have ltX := CX.out.lt
    obtain ⟨cY0, cY1, cY2⟩ := CY.out.cells3
    have ltY := CY.out.lt
    obtain ⟨cA0, cA1, cA2⟩ := CA.out.cells3
    have ltA := CA.out.lt
    obtain ⟨cB0, cB1, cB2⟩ := CB.out.cells3
    have ltB := CB.out.lt
    obtain ⟨cC0, cC1, cC2⟩ := CC.out.cells3
    have ltC := CC.out.lt
    go_wp2_with fail
    refine (same_c _ _ _ S.2 S.1 (FA.out.alloc _) (FB.out.alloc _)).mono ?_
    rintro e w15 ⟨rfl, hb15⟩
    clear cX0 cX1 cX2 ltX cY0 cY1 cY2 ltY cA0 cA1 cA2 ltA cB0 cB1 cB2 ltB cC0 cC1 cC2 ltC
    obtain ⟨hb15, CD⟩ := after_new hb15
    replace CD := Lib.hid CD
    replace CX := Lib.hid (CX.out.after hb15)
    replace CY := Lib.hid (CY.out.after hb15)
    replace CA := Lib.hid (CA.out.after hb15)
    replace CB := Lib.hid (CB.out.after hb15)
    replace CC := Lib.hid (CC.out.after hb15)
    replace FX := Lib.hid (FX.out.after hb15)
    replace FY := Lib.hid (FY.out.after hb15)
    replace FA := Lib.hid (FA.out.after hb15)
    replace FB := Lib.hid (FB.out.after hb15)
    replace FC := Lib.hid (FC.out.after hb15)
    replace FD := Lib.hid (FD.out.after hb15)
    replace HB := Lib.hid (HB.out.trans (hb15.mono HB.out.size))
    clear hb15
    obtain ⟨cX0, cX1, cX2⟩ := CX.out.cells3
    have ltX := CX.out.lt
    obtain ⟨cY0, cY1, cY2⟩ := CY.out.cells3
    have ltY := CY.out.lt
    obtain ⟨cA0, cA1, cA2⟩ := CA.out.cells3
    have ltA := CA.out.lt
    obtain ⟨cB0, cB1, cB2⟩ := CB.out.cells3
    have ltB := CB.out.lt
    obtain ⟨cC0, cC1, cC2⟩ := CC.out.cells3
    have ltC := CC.out.lt
    obtain ⟨cD0, cD1, cD2⟩ := CD.out.cells3
    have ltD := CD.out.lt
    go_wp2_with fail
    refine (same_c _ _ _ T.2 T.1 FC.out FD.out).mono ?_
    rintro e w16 ⟨rfl, hb16⟩
    clear cX0 cX1 cX2 ltX cY0 cY1 cY2 ltY cA0 cA1 cA2 ltA cB0 cB1 cB2 ltB cC0 cC1 cC2 ltC cD0 cD1 cD2 ltD
    replace CX := Lib.hid (CX.out.after hb16)
    replace CY := Lib.hid (CY.out.after hb16)
    replace CA := Lib.hid (CA.out.after hb16)
    replace CB := Lib.hid (CB.out.after hb16)
    replace CC := Lib.hid (CC.out.after hb16)
    replace CD := Lib.hid (CD.out.after hb16)
    replace FX := Lib.hid (FX.out.after hb16)
    replace FY := Lib.hid (FY.out.after hb16)
    replace FA := Lib.hid (FA.out.after hb16)
    replace FB := Lib.hid (FB.out.after hb16)
    replace FC := Lib.hid (FC.out.after hb16)
    replace FD := Lib.hid (FD.out.after hb16)
    replace HB := Lib.hid (HB.out.trans (hb16.mono HB.out.size))
    clear hb16
    obtain ⟨cX0, cX1, cX2⟩ := CX.out.cells3
    have ltX := CX.out.lt
    obtain ⟨cY0, cY1, cY2⟩ := CY.out.cells3
    have ltY := CY.out.lt
    obtain ⟨cA0, cA1, cA2⟩ := CA.out.cells3
    have ltA := CA.out.lt
    obtain ⟨cB0, cB1, cB2⟩ := CB.out.cells3
    have ltB := CB.out.lt
    obtain ⟨cC0, cC1, cC2⟩ := CC.out.cells3
    have ltC := CC.out.lt
    obtain ⟨cD0, cD1, cD2⟩ := CD.out.cells3
    have ltD := CD.out.lt
    go_wp2_with fail
    refine (rworks_c _).mono ?_
    rintro e w17 ⟨rfl, hb17⟩
    clear cX0 cX1 cX2 ltX cY0 cY1 cY2 ltY cA0 cA1 cA2 ltA cB0 cB1 cB2 ltB cC0 cC1 cC2 ltC cD0 cD1 cD2 ltD
    replace CX := Lib.hid (CX.out.after hb17)
    replace CY := Lib.hid (CY.out.after hb17)
    replace CA := Lib.hid (CA.out.after hb17)
    replace CB := Lib.hid (CB.out.after hb17)
    replace CC := Lib.hid (CC.out.after hb17)
    replace CD := Lib.hid (CD.out.after hb17)
    replace FX := Lib.hid (FX.out.after hb17)
    replace FY := Lib.hid (FY.out.after hb17)
    replace FA := Lib.hid (FA.out.after hb17)
    replace FB := Lib.hid (FB.out.after hb17)
    replace FC := Lib.hid (FC.out.after hb17)
    replace FD := Lib.hid (FD.out.after hb17)
    replace HB := Lib.hid (HB.out.trans (hb17.mono HB.out.size))
    clear hb17
    obtain ⟨cX0, cX1, cX2⟩ := CX.out.cells3
    have ltX := CX.out.lt
    obtain ⟨cY0, cY1, cY2⟩ := CY.out.cells3
    have ltY := CY.out.lt
    obtain ⟨cA0, cA1, cA2⟩ := CA.out.cells3
    have ltA := CA.out.lt
    obtain ⟨cB0, cB1, cB2⟩ := CB.out.cells3
    have ltB := CB.out.lt
    obtain ⟨cC0, cC1, cC2⟩ := CC.out.cells3
    have ltC := CC.out.lt
    obtain ⟨cD0, cD1, cD2⟩ := CD.out.cells3
    have ltD := CD.out.lt
    go_wp2_with fail
    go_ret
    exact ⟨rfl, HB.out⟩
set_option maxRecDepth 100000 in
set_option maxHeartbeats 16000000 in
theorem seeks_hi (w : World) (v u : Value) (x y : F) (den : Int) (h : IsFA w v x) (k : IsFA w u y) (n0 : -9223372036854775808 ≤ den) (n1 : den ≤ 9223372036854775807) (hd : 1000 ≤ den) :
    Calls Try.prog 6 #[v, u, .int .i64 den] w fun e w' => e = .returned (.bool true) ∧ Below w.heap.size w w' := by
  have hb1 : decide (100 < den) = true := decide_eq_true (by omega)
  have hb2 : decide (den < 1000) = false := decide_eq_false (by omega)
  obtain ⟨va, vb, rfl, h1, h2⟩ := h
  obtain ⟨p, cp, rfl, hp1, hp2⟩ := h1.shape
  obtain ⟨q, cq, rfl, hq1, hq2⟩ := h2.shape
  obtain ⟨vc, vd, rfl, h3, h4⟩ := k
  obtain ⟨p', cp', rfl, hp3, hp4⟩ := h3.shape
  obtain ⟨q', cq', rfl, hq3, hq4⟩ := h4.shape
  have hA : IsFA w (.agg #[.bool x.neg, .slice p x.num.length cp, .slice q x.den.length cq]) x := ⟨_, _, rfl, h1, h2⟩
  have hB : IsFA w (.agg #[.bool y.neg, .slice p' y.num.length cp', .slice q' y.den.length cq']) y := ⟨_, _, rfl, h3, h4⟩
  obtain ⟨W0, hW, bx, by', hsz, hb0⟩ := start2 w #[.bool x.neg, .slice p x.num.length cp, .slice q x.den.length cq] #[.bool y.neg, .slice p' y.num.length cp', .slice q' y.den.length cq'] 25
  have HA := Lib.hid (hA.after hb0)
  have HA2 := Lib.hid (hB.after hb0)
  have HB0 := Lib.hid hb0
  have BX := Lib.hid bx
  have BY := Lib.hid by'
  clear h1 h2 h3 h4 hA hB hb0 bx by' hsz
  obtain ⟨X, hX⟩ : ∃ X, cut40 x = X := ⟨_, rfl⟩
  have HX := Lib.hid hX
  have HCX : Hid (cut40 X = X) := by show _ = _; rw [← HX.out, cut40_idem]
  obtain ⟨Y, hY⟩ : ∃ Y, cut40 y = Y := ⟨_, rfl⟩
  have HY := Lib.hid hY
  have HCY : Hid (cut40 Y = Y) := by show _ = _; rw [← HY.out, cut40_idem]
  clear hX hY
  go_enter Try.func6, Try.ntmps6
  go_upto_region 1 with fail
  rw [← hW]
  clear hW
  refine wp_region_gj (J := GJ _ (fun _ => SV (fun k => match k with | 1 => some X | 3 => some Y | _ => none) (fun k => match k with | 0 => some (.agg #[.bool x.neg, .slice p x.num.length cp, .slice q x.den.length cq]) | 2 => some (.agg #[.bool y.neg, .slice p' y.num.length cp', .slice q' y.den.length cq']) | _ => none)) (C2 W0 w.heap.size (w.heap.size + 1) X Y) _) (by kernel_rfl) ?_ ?_ (GJ.start C2.start)
  · intro listed a w9 i hr hj
    obtain ⟨hi12, hun, _, _, _⟩ := ready_mem hr
    have h12 : i ∈ List.range 6 := List.mem_range.2 hi12
    simp only [List.range, List.range.loop, List.mem_cons, List.not_mem_nil, or_false] at h12
    obtain ⟨f, rfl, hcm, hf⟩ := hj.opened [15, 16, 17, 18] (by kernel_rfl)
    have hcm : C2 W0 w.heap.size (w.heap.size + 1) X Y listed f w9 := hcm
    rcases h12 with rfl | rfl | rfl | rfl | rfl | rfl
    · have n4 : ¬ up listed 4 := fun h => not_up hun (hj.closed 4 0 h (by kernel_rfl))
      have bw := hcm.1 n4
      have bxw := BX.out.after bw
      have y0 := (Box.cells3 bxw).1
      have y1 := (Box.cells3 bxw).2.1
      have y2 := (Box.cells3 bxw).2.2
      have yl := bxw.lt
      clear bxw
      refine GJ.op hj (by kernel_rfl) hr rfl [15, 16, 17, 18] (by kernel_rfl) (fun K hK => ?_)
      simp only [Act.put, List.foldl_cons, List.foldl_nil, List.setIfInBounds_toArray, List.set_cons_zero, List.set_cons_succ] at hK ⊢
      clear hj hf
      go_simp
      exact hK _ _ (fun k v _ _ h => h.keep (Below.refl _ _)) (fun t ht => SV.eq rfl rfl) (hcm.keep (Below.refl _ _) (by omega) (by omega))
    · have n4 : ¬ up listed 4 := fun h => not_up hun (hj.closed 4 1 h (by kernel_rfl))
      have bw := hcm.1 n4
      have e1 : f 15 = .agg #[.bool x.neg, .slice p x.num.length cp, .slice q x.den.length cq] := (hf 0 _ _ rfl rfl (up_dep hr (by kernel_rfl))).2 _ rfl
      refine GJ.op hj (by kernel_rfl) hr rfl [15, 16, 17, 18] (by kernel_rfl) (fun K hK => ?_)
      simp only [Act.put, List.foldl_cons, List.foldl_nil, List.setIfInBounds_toArray, List.set_cons_zero, List.set_cons_succ] at hK ⊢
      clear hj hf
      rw [e1] at hK ⊢
      clear e1
      go_simp
      refine (own40_a w9 _ x (HA.out.after bw)).mono ?_
      rw [HX.out]
      rintro e w10 ⟨v10, rfl, hv10, hb10⟩
      exact hK _ _ (fun k v _ _ h => h.keep hb10) (fun t ht => SV.isF rfl rfl hv10) (hcm.keep hb10 (by omega) (by omega))
    · have n4 : ¬ up listed 4 := fun h => not_up hun (hj.closed 3 2 (hj.closed 4 3 h (by kernel_rfl)) (by kernel_rfl))
      have bw := hcm.1 n4
      have bxw := BY.out.after bw
      have y0 := (Box.cells3 bxw).1
      have y1 := (Box.cells3 bxw).2.1
      have y2 := (Box.cells3 bxw).2.2
      have yl := bxw.lt
      clear bxw
      refine GJ.op hj (by kernel_rfl) hr rfl [15, 16, 17, 18] (by kernel_rfl) (fun K hK => ?_)
      simp only [Act.put, List.foldl_cons, List.foldl_nil, List.setIfInBounds_toArray, List.set_cons_zero, List.set_cons_succ] at hK ⊢
      clear hj hf
      go_simp
      exact hK _ _ (fun k v _ _ h => h.keep (Below.refl _ _)) (fun t ht => SV.eq rfl rfl) (hcm.keep (Below.refl _ _) (by omega) (by omega))
    · have n4 : ¬ up listed 4 := fun h => not_up hun (hj.closed 4 3 h (by kernel_rfl))
      have bw := hcm.1 n4
      have e1 : f 17 = .agg #[.bool y.neg, .slice p' y.num.length cp', .slice q' y.den.length cq'] := (hf 2 _ _ rfl rfl (up_dep hr (by kernel_rfl))).2 _ rfl
      refine GJ.op hj (by kernel_rfl) hr rfl [15, 16, 17, 18] (by kernel_rfl) (fun K hK => ?_)
      simp only [Act.put, List.foldl_cons, List.foldl_nil, List.setIfInBounds_toArray, List.set_cons_zero, List.set_cons_succ] at hK ⊢
      clear hj hf
      rw [e1] at hK ⊢
      clear e1
      go_simp
      refine (own40_a w9 _ y (HA2.out.after bw)).mono ?_
      rw [HY.out]
      rintro e w10 ⟨v10, rfl, hv10, hb10⟩
      exact hK _ _ (fun k v _ _ h => h.keep hb10) (fun t ht => SV.isF rfl rfl hv10) (hcm.keep hb10 (by omega) (by omega))
    · have s1 : IsF w9 (f 16) X := (hf 1 _ _ rfl rfl (up_dep hr (by kernel_rfl))).1 _ rfl
      have bw := hcm.1 (not_up hun)
      have n4 : ¬ up listed 4 := not_up hun
      have n5 : ¬ up listed 5 := fun h => not_up hun (hj.closed 5 4 h (by kernel_rfl))
      have bxw := BX.out.after bw
      obtain ⟨ua, ub, e1, h1, h2⟩ := s1
      obtain ⟨pa, ca, rfl, _, _⟩ := h1.shape
      obtain ⟨pb, cb, rfl, _, _⟩ := h2.shape
      have hsz7 := hj.lsize
      have hlt : 4 < listed.size := by rw [hsz7]; decide
      refine GJ.op hj (by kernel_rfl) hr rfl [15, 16, 17, 18] (by kernel_rfl) (fun K hK => ?_)
      simp only [Act.put, List.foldl_cons, List.foldl_nil, List.setIfInBounds_toArray, List.set_cons_zero, List.set_cons_succ] at hK ⊢
      clear hj hf
      obtain ⟨zb, hzb⟩ : ∃ z, f 16 = z := ⟨_, rfl⟩
      rw [hzb] at hK ⊢ e1
      subst e1
      clear hzb
      have y0 := (Box.cells3 bxw).1
      have y1 := (Box.cells3 bxw).2.1
      have y2 := (Box.cells3 bxw).2.2
      have yl := bxw.lt
      have q0 := bxw.frozen 0
      have q1 := bxw.frozen 1
      have q2 := bxw.frozen 2
      have BXW := Lib.hid bxw
      clear bxw
      go_simp
      exact hK undef _ (fun k v _ _ h => h.fx (fx_set3 _ _ _ _) (Box.noT BXW.out)) (fun t ht => by cases ht) (hcm.put4 n4 n5 hlt BXW.out h1 h2)
    · have s1 : IsF w9 (f 18) Y := (hf 3 _ _ rfl rfl (up_dep hr (by kernel_rfl))).1 _ rfl
      have u4 : up listed 4 := up_dep hr (by kernel_rfl)
      have n5 : ¬ up listed 5 := not_up hun
      have bxw := Box.fx BY.out (hcm.2.1 u4 n5).1 (by omega)
      obtain ⟨ua, ub, e1, h1, h2⟩ := s1
      obtain ⟨pa, ca, rfl, _, _⟩ := h1.shape
      obtain ⟨pb, cb, rfl, _, _⟩ := h2.shape
      have hsz7 := hj.lsize
      have hlt : 5 < listed.size := by rw [hsz7]; decide
      refine GJ.op hj (by kernel_rfl) hr rfl [15, 16, 17, 18] (by kernel_rfl) (fun K hK => ?_)
      simp only [Act.put, List.foldl_cons, List.foldl_nil, List.setIfInBounds_toArray, List.set_cons_zero, List.set_cons_succ] at hK ⊢
      clear hj hf
      obtain ⟨zb, hzb⟩ : ∃ z, f 18 = z := ⟨_, rfl⟩
      rw [hzb] at hK ⊢ e1
      subst e1
      clear hzb
      have y0 := (Box.cells3 bxw).1
      have y1 := (Box.cells3 bxw).2.1
      have y2 := (Box.cells3 bxw).2.2
      have yl := bxw.lt
      have q0 := bxw.frozen 0
      have q1 := bxw.frozen 1
      have q2 := bxw.frozen 2
      have BXW := Lib.hid bxw
      clear bxw
      go_simp
      exact hK undef _ (fun k v _ _ h => h.fx (fx_set3 _ _ _ _) (Box.noT BXW.out)) (fun t ht => by cases ht) (hcm.put5 u4 n5 hlt (by omega) BXW.out h1 h2)
  · intro listed a w10 hr hj
    have hu : ∀ k, k < 6 → up listed k := fun k hk => all_up (by kernel_rfl) hj.lsize hr k hk
    obtain ⟨f, rfl, hcm, hf⟩ := hj.opened [15, 16, 17, 18] (by kernel_rfl)
    replace hcm : C2 W0 w.heap.size (w.heap.size + 1) X Y listed f w10 := hcm
    obtain ⟨hfx, hv1, hv2⟩ := hcm.2.2 (hu 5 (by omega))
    have HV1 := Lib.hid hv1
    have HV2 := Lib.hid hv2
    have HB : Hid (Below w.heap.size w w10) := HB0.out.trans (hfx.toBelow HB0.out.size (fun g e => by rcases e with e | e <;> omega))
    clear hf hj hr hu hfx hv1 hv2 hcm HA HA2 HX HY BX BY HB0
    simp only [List.foldl_cons, List.foldl_nil, List.setIfInBounds_toArray, List.set_cons_zero, List.set_cons_succ]
    generalize f 15 = g15
    generalize f 16 = g16
    generalize f 17 = g17
    generalize f 18 = g18
    clear f
    obtain ⟨va, vb, hbx, h1, h2⟩ := HV1.out
    obtain ⟨pX, mX, rfl, _, _⟩ := h1.shape
    obtain ⟨qX, nX, rfl, _, _⟩ := h2.shape
    have CX := Lib.hid hbx
    have FX := Lib.hid (IsF.at_ h1 h2)
    clear hbx h1 h2
    obtain ⟨va, vb, hbx, h1, h2⟩ := HV2.out
    obtain ⟨pY, mY, rfl, _, _⟩ := h1.shape
    obtain ⟨qY, nY, rfl, _, _⟩ := h2.shape
    have CY := Lib.hid hbx
    have FY := Lib.hid (IsF.at_ h1 h2)
    clear hbx h1 h2
    obtain ⟨S, hS⟩ : ∃ S, simplestF X Y = S := ⟨_, rfl⟩
    have HS := Lib.hid hS
    clear hS
    obtain ⟨T, hT⟩ : ∃ T, nearF X den = T := ⟨_, rfl⟩
    have HT := Lib.hid hT
    clear hT
    obtain ⟨cX0, cX1, cX2⟩ := CX.out.cells3
    have ltX := CX.out.lt
    obtain ⟨cY0, cY1, cY2⟩ := CY.out.cells3
    have ltY := CY.out.lt
    go_wp2_with fail
    refine (Simplest_c _ _ _ X Y FX.out FY.out).mono ?_
    rw [HS.out]
    rintro e w11 ⟨v, rfl, hv, hb11⟩
    have hv : IsF _ v (S.1) := hv
    obtain ⟨va, vb, rfl, h1, h2⟩ := hv
    obtain ⟨pA, mA, rfl, _, _⟩ := h1.shape
    obtain ⟨qA, nA, rfl, _, _⟩ := h2.shape
    have FA := Lib.hid (IsF.at_ h1 h2)
    clear h1 h2
    clear cX0 cX1 cX2 ltX cY0 cY1 cY2 ltY
    replace CX := Lib.hid (CX.out.after hb11)
    replace CY := Lib.hid (CY.out.after hb11)
    replace FX := Lib.hid (FX.out.after hb11)
    replace FY := Lib.hid (FY.out.after hb11)
    replace HB := Lib.hid (HB.out.trans (hb11.mono HB.out.size))
    clear hb11
    have d_X_A : w.heap.size < w11.heap.size := CX.out.lt
    have d_Y_A : (w.heap.size + 1) < w11.heap.size := CY.out.lt
    have g_A : w.heap.size ≤ w11.heap.size := by have := HB.out.size; omega
    obtain ⟨cX0, cX1, cX2⟩ := CX.out.cells3
    have ltX := CX.out.lt
    obtain ⟨cY0, cY1, cY2⟩ := CY.out.cells3
    have ltY := CY.out.lt
    go_wp2_with fail
    refine (rSimplest_c _ _ _ X Y (FX.out.alloc _) (FY.out.alloc _)).mono ?_
    rw [HS.out]
    rintro e w12 ⟨v, rfl, hv, hb12⟩
    have hv : IsF _ v (S.1) := hv
    obtain ⟨va, vb, rfl, h1, h2⟩ := hv
    obtain ⟨pB, mB, rfl, _, _⟩ := h1.shape
    obtain ⟨qB, nB, rfl, _, _⟩ := h2.shape
    have FB := Lib.hid (IsF.at_ h1 h2)
    clear h1 h2
    clear cX0 cX1 cX2 ltX cY0 cY1 cY2 ltY
    obtain ⟨hb12, CA⟩ := after_new hb12
    replace CA := Lib.hid CA
    replace CX := Lib.hid (CX.out.after hb12)
    replace CY := Lib.hid (CY.out.after hb12)
    replace FX := Lib.hid (FX.out.after hb12)
    replace FY := Lib.hid (FY.out.after hb12)
    replace FA := Lib.hid (FA.out.after hb12)
    replace HB := Lib.hid (HB.out.trans (hb12.mono HB.out.size))
    clear hb12
    have d_X_B : w.heap.size < w12.heap.size := CX.out.lt
    have d_Y_B : (w.heap.size + 1) < w12.heap.size := CY.out.lt
    have d_A_B : w11.heap.size < w12.heap.size := CA.out.lt
    have g_B : w.heap.size ≤ w12.heap.size := by have := HB.out.size; omega
    obtain ⟨cX0, cX1, cX2⟩ := CX.out.cells3
    have ltX := CX.out.lt
    obtain ⟨cY0, cY1, cY2⟩ := CY.out.cells3
    have ltY := CY.out.lt
    obtain ⟨cA0, cA1, cA2⟩ := CA.out.cells3
    have ltA := CA.out.lt
    go_wp2_with fail
    refine (Nearest_c _ _ X den (FX.out.alloc _) (by omega) (by omega)).mono ?_
    rw [HT.out]
    rintro e w13 ⟨v, rfl, hv, hb13⟩
    have hv : IsF _ v (T.1) := hv
    obtain ⟨va, vb, rfl, h1, h2⟩ := hv
    obtain ⟨pC, mC, rfl, _, _⟩ := h1.shape
    obtain ⟨qC, nC, rfl, _, _⟩ := h2.shape
    have FC := Lib.hid (IsF.at_ h1 h2)
    clear h1 h2
    clear cX0 cX1 cX2 ltX cY0 cY1 cY2 ltY cA0 cA1 cA2 ltA
    obtain ⟨hb13, CB⟩ := after_new hb13
    replace CB := Lib.hid CB
    replace CX := Lib.hid (CX.out.after hb13)
    replace CY := Lib.hid (CY.out.after hb13)
    replace CA := Lib.hid (CA.out.after hb13)
    replace FX := Lib.hid (FX.out.after hb13)
    replace FY := Lib.hid (FY.out.after hb13)
    replace FA := Lib.hid (FA.out.after hb13)
    replace FB := Lib.hid (FB.out.after hb13)
    replace HB := Lib.hid (HB.out.trans (hb13.mono HB.out.size))
    clear hb13
    have d_X_C : w.heap.size < w13.heap.size := CX.out.lt
    have d_Y_C : (w.heap.size + 1) < w13.heap.size := CY.out.lt
    have d_A_C : w11.heap.size < w13.heap.size := CA.out.lt
    have d_B_C : w12.heap.size < w13.heap.size := CB.out.lt
    have g_C : w.heap.size ≤ w13.heap.size := by have := HB.out.size; omega
    obtain ⟨cX0, cX1, cX2⟩ := CX.out.cells3
    have ltX := CX.out.lt
    obtain ⟨cY0, cY1, cY2⟩ := CY.out.cells3
    have ltY := CY.out.lt
    obtain ⟨cA0, cA1, cA2⟩ := CA.out.cells3
    have ltA := CA.out.lt
    obtain ⟨cB0, cB1, cB2⟩ := CB.out.cells3
    have ltB := CB.out.lt
    go_wp2_with fail
    refine (rNearest_c _ _ X den (FX.out.alloc _)).mono ?_
    rw [HT.out]
    rintro e w14 ⟨v, rfl, hv, hb14⟩
    have hv : IsF _ v (T.1) := hv
    obtain ⟨va, vb, rfl, h1, h2⟩ := hv
    obtain ⟨pD, mD, rfl, _, _⟩ := h1.shape
    obtain ⟨qD, nD, rfl, _, _⟩ := h2.shape
    have FD := Lib.hid (IsF.at_ h1 h2)
    clear h1 h2
    clear cX0 cX1 cX2 ltX cY0 cY1 cY2 ltY cA0 cA1 cA2 ltA cB0 cB1 cB2 ltB
    obtain ⟨hb14, CC⟩ := after_new hb14
    replace CC := Lib.hid CC
    replace CX := Lib.hid (CX.out.after hb14)
    replace CY := Lib.hid (CY.out.after hb14)
    replace CA := Lib.hid (CA.out.after hb14)
    replace CB := Lib.hid (CB.out.after hb14)
    replace FX := Lib.hid (FX.out.after hb14)
    replace FY := Lib.hid (FY.out.after hb14)
    replace FA := Lib.hid (FA.out.after hb14)
    replace FB := Lib.hid (FB.out.after hb14)
    replace FC := Lib.hid (FC.out.after hb14)
    replace HB := Lib.hid (HB.out.trans (hb14.mono HB.out.size))
    clear hb14
    have d_X_D : w.heap.size < w14.heap.size := CX.out.lt
    have d_Y_D : (w.heap.size + 1) < w14.heap.size := CY.out.lt
    have d_A_D : w11.heap.size < w14.heap.size := CA.out.lt
    have d_B_D : w12.heap.size < w14.heap.size := CB.out.lt
    have d_C_D : w13.heap.size < w14.heap.size := CC.out.lt
    have g_D : w.heap.size ≤ w14.heap.size := by have := HB.out.size; omega
    obtain ⟨cX0, cX1, cX2⟩ := CX.out.cells3
    have ltX := CX.out.lt
    obtain ⟨cY0, cY1, cY2⟩ := CY.out.cells3
    have ltY := CY.out.lt
    obtain ⟨cA0, cA1, cA2⟩ := CA.out.cells3
    have ltA := CA.out.lt
    obtain ⟨cB0, cB1, cB2⟩ := CB.out.cells3
    have ltB := CB.out.lt
    obtain ⟨cC0, cC1, cC2⟩ := CC.out.cells3
    have ltC := CC.out.lt
    go_wp2_with fail
    refine (same_c _ _ _ S.2 S.1 (FA.out.alloc _) (FB.out.alloc _)).mono ?_
    rintro e w15 ⟨rfl, hb15⟩
    clear cX0 cX1 cX2 ltX cY0 cY1 cY2 ltY cA0 cA1 cA2 ltA cB0 cB1 cB2 ltB cC0 cC1 cC2 ltC
    obtain ⟨hb15, CD⟩ := after_new hb15
    replace CD := Lib.hid CD
    replace CX := Lib.hid (CX.out.after hb15)
    replace CY := Lib.hid (CY.out.after hb15)
    replace CA := Lib.hid (CA.out.after hb15)
    replace CB := Lib.hid (CB.out.after hb15)
    replace CC := Lib.hid (CC.out.after hb15)
    replace FX := Lib.hid (FX.out.after hb15)
    replace FY := Lib.hid (FY.out.after hb15)
    replace FA := Lib.hid (FA.out.after hb15)
    replace FB := Lib.hid (FB.out.after hb15)
    replace FC := Lib.hid (FC.out.after hb15)
    replace FD := Lib.hid (FD.out.after hb15)
    replace HB := Lib.hid (HB.out.trans (hb15.mono HB.out.size))
    clear hb15
    obtain ⟨cX0, cX1, cX2⟩ := CX.out.cells3
    have ltX := CX.out.lt
    obtain ⟨cY0, cY1, cY2⟩ := CY.out.cells3
    have ltY := CY.out.lt
    obtain ⟨cA0, cA1, cA2⟩ := CA.out.cells3
    have ltA := CA.out.lt
    obtain ⟨cB0, cB1, cB2⟩ := CB.out.cells3
    have ltB := CB.out.lt
    obtain ⟨cC0, cC1, cC2⟩ := CC.out.cells3
    have ltC := CC.out.lt
    obtain ⟨cD0, cD1, cD2⟩ := CD.out.cells3
    have ltD := CD.out.lt
    go_wp2_with fail
    refine (same_c _ _ _ T.2 T.1 FC.out FD.out).mono ?_
    rintro e w16 ⟨rfl, hb16⟩
    clear cX0 cX1 cX2 ltX cY0 cY1 cY2 ltY cA0 cA1 cA2 ltA cB0 cB1 cB2 ltB cC0 cC1 cC2 ltC cD0 cD1 cD2 ltD
    replace CX := Lib.hid (CX.out.after hb16)
    replace CY := Lib.hid (CY.out.after hb16)
    replace CA := Lib.hid (CA.out.after hb16)
    replace CB := Lib.hid (CB.out.after hb16)
    replace CC := Lib.hid (CC.out.after hb16)
    replace CD := Lib.hid (CD.out.after hb16)
    replace FX := Lib.hid (FX.out.after hb16)
    replace FY := Lib.hid (FY.out.after hb16)
    replace FA := Lib.hid (FA.out.after hb16)
    replace FB := Lib.hid (FB.out.after hb16)
    replace FC := Lib.hid (FC.out.after hb16)
    replace FD := Lib.hid (FD.out.after hb16)
    replace HB := Lib.hid (HB.out.trans (hb16.mono HB.out.size))
    clear hb16
    obtain ⟨cX0, cX1, cX2⟩ := CX.out.cells3
    have ltX := CX.out.lt
    obtain ⟨cY0, cY1, cY2⟩ := CY.out.cells3
    have ltY := CY.out.lt
    obtain ⟨cA0, cA1, cA2⟩ := CA.out.cells3
    have ltA := CA.out.lt
    obtain ⟨cB0, cB1, cB2⟩ := CB.out.cells3
    have ltB := CB.out.lt
    obtain ⟨cC0, cC1, cC2⟩ := CC.out.cells3
    have ltC := CC.out.lt
    obtain ⟨cD0, cD1, cD2⟩ := CD.out.cells3
    have ltD := CD.out.lt
    go_wp2_with fail
    refine (rworks_c _).mono ?_
    rintro e w17 ⟨rfl, hb17⟩
    clear cX0 cX1 cX2 ltX cY0 cY1 cY2 ltY cA0 cA1 cA2 ltA cB0 cB1 cB2 ltB cC0 cC1 cC2 ltC cD0 cD1 cD2 ltD
    replace CX := Lib.hid (CX.out.after hb17)
    replace CY := Lib.hid (CY.out.after hb17)
    replace CA := Lib.hid (CA.out.after hb17)
    replace CB := Lib.hid (CB.out.after hb17)
    replace CC := Lib.hid (CC.out.after hb17)
    replace CD := Lib.hid (CD.out.after hb17)
    replace FX := Lib.hid (FX.out.after hb17)
    replace FY := Lib.hid (FY.out.after hb17)
    replace FA := Lib.hid (FA.out.after hb17)
    replace FB := Lib.hid (FB.out.after hb17)
    replace FC := Lib.hid (FC.out.after hb17)
    replace FD := Lib.hid (FD.out.after hb17)
    replace HB := Lib.hid (HB.out.trans (hb17.mono HB.out.size))
    clear hb17
    obtain ⟨cX0, cX1, cX2⟩ := CX.out.cells3
    have ltX := CX.out.lt
    obtain ⟨cY0, cY1, cY2⟩ := CY.out.cells3
    have ltY := CY.out.lt
    obtain ⟨cA0, cA1, cA2⟩ := CA.out.cells3
    have ltA := CA.out.lt
    obtain ⟨cB0, cB1, cB2⟩ := CB.out.cells3
    have ltB := CB.out.lt
    obtain ⟨cC0, cC1, cC2⟩ := CC.out.cells3
    have ltC := CC.out.lt
    obtain ⟨cD0, cD1, cD2⟩ := CD.out.cells3
    have ltD := CD.out.lt
    go_wp2_with fail
    go_ret
    exact ⟨rfl, HB.out⟩
theorem seeks_walk (w : World) (v u : Value) (x y : F) (den : Int) (h : IsFA w v x) (k : IsFA w u y) (n0 : -9223372036854775808 ≤ den) (n1 : den ≤ 9223372036854775807) :
    Calls Try.prog 6 #[v, u, .int .i64 den] w fun e w' => e = .returned (.bool true) ∧ Below w.heap.size w w' := by
  by_cases h1 : den ≤ 100
  · exact seeks_lo w v u x y den h k n0 n1 h1
  · by_cases h2 : den < 1000
    · exact seeks_mid w v u x y den h k n0 n1 (by omega) h2
    · exact seeks_hi w v u x y den h k n0 n1 (by omega)
end Go.Proofs.Ytaojdlcailpheaa
