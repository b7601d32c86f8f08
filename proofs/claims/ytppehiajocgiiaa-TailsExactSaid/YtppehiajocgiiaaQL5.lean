/- The walk of TailsExact: the package's Choose, Exactly and Tail answer as the reference's, for all numbers and fractions. -/
import Derived.Test.YtppehiajocgiiaaK21
import Derived.Test.YtppehiajocgiiaaK20
set_option linter.unusedVariables false
namespace Go.Proofs.Ytppehiajocgiiaa
open Go.RowKit

theorem cut34_idem (x : F) : cut34 (cut34 x) = cut34 x := by
  unfold cut34
  simp only [List.take_take]
  rfl

set_option maxRecDepth 100000 in
set_option maxHeartbeats 8000000 in
theorem exact_walk (w : World) (n k : Int) (v : Value) (x : F) (h : IsFA w v x) : Calls Try.prog 3 #[.int .i64 n, .int .i64 k, v] w fun e w' => e = .returned (.bool true) ∧ Below w.heap.size w w' := by
  have HX := h
  obtain ⟨va, vb, rfl, h1, h2⟩ := h
  obtain ⟨p, cp, rfl, _, _⟩ := h1.shape
  obtain ⟨q, cq, rfl, _, _⟩ := h2.shape
  obtain ⟨W0, hW, bx, hsz, hb0⟩ := start1 w #[.bool x.neg, .slice p x.num.length cp, .slice q x.den.length cq] 25
  obtain ⟨c0, c1, c2⟩ := bx.cells3
  have H0 := Lib.hid (HX.after hb0)
  have HB := Lib.hid hb0
  have CP := Lib.hid bx
  obtain ⟨y, hy⟩ : ∃ y, cut34 x = y := ⟨_, rfl⟩
  have hyy : cut34 y = y := by rw [← hy, cut34_idem]
  have HY := Lib.hid hy
  have HYY := Lib.hid hyy
  obtain ⟨m, hm⟩ : ∃ m, fewN n = m := ⟨_, rfl⟩
  have HM := Lib.hid hm
  obtain ⟨o, ho⟩ : ∃ o, chooseF m k = o := ⟨_, rfl⟩
  have HO := Lib.hid ho
  obtain ⟨oe, hoe⟩ : ∃ oe, exactlyF m k y = oe := ⟨_, rfl⟩
  have HOE := Lib.hid hoe
  obtain ⟨ot, hot⟩ : ∃ ot, tailF m k y = ot := ⟨_, rfl⟩
  have HOT := Lib.hid hot
  clear HX bx hb0 h1 h2 hy hyy hm ho hoe hot
  go_enter Try.func3, Try.ntmps3
  go_upto_region 1 with fail
  rw [← hW]
  clear hW
  go_region_with (first
    | (go_at_call 10; refine (few_c _ n).mono ?_; rw [HM.out]; rintro e wn ⟨rfl, hwn⟩; obtain rfl := hwn.symm)
    | (go_at_call 11; refine (own_a _ _ x ?_).mono ?_; exact H0.out.after (below_dr (Below.refl _ W0)); rw [HY.out]; rintro e w1 ⟨v, rfl, hv, hb⟩; have hb1 := below_of_drew hb; clear hb; obtain ⟨va, vb, rfl, h1, h2⟩ := hv; obtain ⟨pP, mP, rfl, _, _⟩ := h1.shape; obtain ⟨qP, nP, rfl, _, _⟩ := h2.shape; have FP := Lib.hid (IsF.at_ h1 h2); clear h1 h2; obtain ⟨r0, r1, r2⟩ := (CP.out.after hb1).cells3; have f0 := (CP.out.after hb1).frozen 0; have f1 := (CP.out.after hb1).frozen 1; have f2 := (CP.out.after hb1).frozen 2; have hlt := (CP.out.after hb1).lt))
  all_goals
    (clear c0 c1 c2 r0 r1 r2 f0 f1 f2 hlt H0
     replace CP := Lib.hid (CP.out.after hb1)
     replace HB := Lib.hid (HB.out.trans (hb1.mono HB.out.size))
     clear hb1
     obtain ⟨w2, hw⟩ : ∃ w2, w2 = ((w1.setCell ⟨w.heap.size, 0, none⟩ (.bool (y).neg)).setCell ⟨w.heap.size, 1, none⟩ (.slice pP (y).num.length mP)).setCell ⟨w.heap.size, 2, none⟩ (.slice qP (y).den.length nP) := ⟨_, rfl⟩
     have hb := below_same hw
     rw [← hw]
     clear hw
     obtain ⟨KB, KS, KW, NC⟩ := after_set CP.out (fun _ h => by cases h) (fun _ h => by cases h) (fun _ h => by cases h) hb
     replace CP := Lib.hid NC
     replace FP := Lib.hid (FP.out.via KS)
     replace HB := Lib.hid (KW _ _ HB.out (by omega))
     clear KB KS KW NC hb
     obtain ⟨cP0, cP1, cP2⟩ := CP.out.cells3
     have ltP := CP.out.lt
     go_wp2_with fail
     refine (own_c _ _ y FP.out).mono ?_
     rw [HYY.out]
     rintro e w3 ⟨v, rfl, hv, hb3⟩
     have hv : IsF _ v (y) := hv
     obtain ⟨va, vb, rfl, h1, h2⟩ := hv
     obtain ⟨pQ, mQ, rfl, _, _⟩ := h1.shape
     obtain ⟨qQ, nQ, rfl, _, _⟩ := h2.shape
     have FQ := Lib.hid (IsF.at_ h1 h2)
     clear h1 h2
     clear cP0 cP1 cP2 ltP
     replace CP := Lib.hid (CP.out.after hb3)
     replace FP := Lib.hid (FP.out.after hb3)
     replace HB := Lib.hid (HB.out.trans (hb3.mono HB.out.size))
     clear hb3
     have d_P_Q : w.heap.size < w3.heap.size := CP.out.lt
     have g_Q : w.heap.size ≤ w3.heap.size := by have := HB.out.size; omega
     obtain ⟨cP0, cP1, cP2⟩ := CP.out.cells3
     have ltP := CP.out.lt
     go_wp2_with fail
     refine (tChoose_c _ m k).mono ?_
     rw [HO.out]
     rintro e w4 ⟨v, rfl, hv, hb4⟩
     have hv : Sl _ v (o.1) := hv
     obtain ⟨pa, qa, rfl, _, _⟩ := hv.shape
     have Fa := Lib.hid hv
     clear hv
     clear cP0 cP1 cP2 ltP
     obtain ⟨hb4, CQ⟩ := after_new hb4
     replace CQ := Lib.hid CQ
     replace CP := Lib.hid (CP.out.after hb4)
     replace FP := Lib.hid (FP.out.after hb4)
     replace FQ := Lib.hid (FQ.out.after hb4)
     replace HB := Lib.hid (HB.out.trans (hb4.mono HB.out.size))
     clear hb4
     obtain ⟨cP0, cP1, cP2⟩ := CP.out.cells3
     have ltP := CP.out.lt
     obtain ⟨cQ0, cQ1, cQ2⟩ := CQ.out.cells3
     have ltQ := CQ.out.lt
     go_wp2_with fail
     refine (rChoose_c _ m k).mono ?_
     rw [HO.out]
     rintro e w5 ⟨v, rfl, hv, hb5⟩
     have hv : Sl _ v (o.1) := hv
     obtain ⟨pb, qb, rfl, _, _⟩ := hv.shape
     have Fb := Lib.hid hv
     clear hv
     clear cP0 cP1 cP2 ltP cQ0 cQ1 cQ2 ltQ
     replace CP := Lib.hid (CP.out.after hb5)
     replace CQ := Lib.hid (CQ.out.after hb5)
     replace FP := Lib.hid (FP.out.after hb5)
     replace FQ := Lib.hid (FQ.out.after hb5)
     replace Fa := Lib.hid (Fa.out.after hb5)
     replace HB := Lib.hid (HB.out.trans (hb5.mono HB.out.size))
     clear hb5
     obtain ⟨cP0, cP1, cP2⟩ := CP.out.cells3
     have ltP := CP.out.lt
     obtain ⟨cQ0, cQ1, cQ2⟩ := CQ.out.cells3
     have ltQ := CQ.out.lt
     go_wp2_with fail
     refine (SameNat_c _ _ _ o.1 o.1 Fa.out Fb.out).mono ?_
     intro e w6 hr
     obtain ⟨rfl, hw⟩ := hr.yes rfl
     have hb6 := below_dn hw
     clear hr hw
     clear cP0 cP1 cP2 ltP cQ0 cQ1 cQ2 ltQ
     replace CP := Lib.hid (CP.out.after hb6)
     replace CQ := Lib.hid (CQ.out.after hb6)
     replace FP := Lib.hid (FP.out.after hb6)
     replace FQ := Lib.hid (FQ.out.after hb6)
     replace Fa := Lib.hid (Fa.out.after hb6)
     replace Fb := Lib.hid (Fb.out.after hb6)
     replace HB := Lib.hid (HB.out.trans (hb6.mono HB.out.size))
     clear hb6
     clear Fa Fb
     obtain ⟨cP0, cP1, cP2⟩ := CP.out.cells3
     have ltP := CP.out.lt
     obtain ⟨cQ0, cQ1, cQ2⟩ := CQ.out.cells3
     have ltQ := CQ.out.lt
     go_wp2_with fail
     refine (tExactly_c _ m k _ y FP.out).mono ?_
     rw [HOE.out]
     rintro e w7 ⟨v, rfl, hv, hb7⟩
     have hv : IsF _ v (oe.1) := hv
     obtain ⟨va, vb, rfl, h1, h2⟩ := hv
     obtain ⟨px, mx, rfl, _, _⟩ := h1.shape
     obtain ⟨qx, nx, rfl, _, _⟩ := h2.shape
     have Fx := Lib.hid (IsF.at_ h1 h2)
     clear h1 h2
     clear cP0 cP1 cP2 ltP cQ0 cQ1 cQ2 ltQ
     replace CP := Lib.hid (CP.out.after hb7)
     replace CQ := Lib.hid (CQ.out.after hb7)
     replace FP := Lib.hid (FP.out.after hb7)
     replace FQ := Lib.hid (FQ.out.after hb7)
     replace HB := Lib.hid (HB.out.trans (hb7.mono HB.out.size))
     clear hb7
     have d_P_x : w.heap.size < w7.heap.size := CP.out.lt
     have d_Q_x : w3.heap.size < w7.heap.size := CQ.out.lt
     have g_x : w.heap.size ≤ w7.heap.size := by have := HB.out.size; omega
     obtain ⟨cP0, cP1, cP2⟩ := CP.out.cells3
     have ltP := CP.out.lt
     obtain ⟨cQ0, cQ1, cQ2⟩ := CQ.out.cells3
     have ltQ := CQ.out.lt
     go_wp2_with fail
     refine (rExactly_c _ m k _ y (FQ.out.alloc _)).mono ?_
     rw [HOE.out]
     rintro e w8 ⟨v, rfl, hv, hb8⟩
     have hv : IsF _ v (oe.1) := hv
     obtain ⟨va, vb, rfl, h1, h2⟩ := hv
     obtain ⟨pz, mz, rfl, _, _⟩ := h1.shape
     obtain ⟨qz, nz, rfl, _, _⟩ := h2.shape
     have Fz := Lib.hid (IsF.at_ h1 h2)
     clear h1 h2
     clear cP0 cP1 cP2 ltP cQ0 cQ1 cQ2 ltQ
     obtain ⟨hb8, Cx⟩ := after_new hb8
     replace Cx := Lib.hid Cx
     replace CP := Lib.hid (CP.out.after hb8)
     replace CQ := Lib.hid (CQ.out.after hb8)
     replace FP := Lib.hid (FP.out.after hb8)
     replace FQ := Lib.hid (FQ.out.after hb8)
     replace Fx := Lib.hid (Fx.out.after hb8)
     replace HB := Lib.hid (HB.out.trans (hb8.mono HB.out.size))
     clear hb8
     have d_P_z : w.heap.size < w8.heap.size := CP.out.lt
     have d_Q_z : w3.heap.size < w8.heap.size := CQ.out.lt
     have d_x_z : w7.heap.size < w8.heap.size := Cx.out.lt
     have g_z : w.heap.size ≤ w8.heap.size := by have := HB.out.size; omega
     obtain ⟨cP0, cP1, cP2⟩ := CP.out.cells3
     have ltP := CP.out.lt
     obtain ⟨cQ0, cQ1, cQ2⟩ := CQ.out.cells3
     have ltQ := CQ.out.lt
     obtain ⟨cx0, cx1, cx2⟩ := Cx.out.cells3
     have ltx := Cx.out.lt
     go_wp2_with fail
     refine (Same_c _ _ _ oe.1 oe.1 (Fx.out.alloc _) (Fz.out.alloc _)).mono ?_
     intro e w9 hr
     obtain ⟨rfl, hb9⟩ := hr.yes rfl
     clear hr
     clear cP0 cP1 cP2 ltP cQ0 cQ1 cQ2 ltQ cx0 cx1 cx2 ltx
     obtain ⟨hb9, Cz⟩ := after_new hb9
     replace Cz := Lib.hid Cz
     replace CP := Lib.hid (CP.out.after hb9)
     replace CQ := Lib.hid (CQ.out.after hb9)
     replace Cx := Lib.hid (Cx.out.after hb9)
     replace FP := Lib.hid (FP.out.after hb9)
     replace FQ := Lib.hid (FQ.out.after hb9)
     replace Fx := Lib.hid (Fx.out.after hb9)
     replace Fz := Lib.hid (Fz.out.after hb9)
     replace HB := Lib.hid (HB.out.trans (hb9.mono HB.out.size))
     clear hb9
     obtain ⟨cP0, cP1, cP2⟩ := CP.out.cells3
     have ltP := CP.out.lt
     obtain ⟨cQ0, cQ1, cQ2⟩ := CQ.out.cells3
     have ltQ := CQ.out.lt
     obtain ⟨cx0, cx1, cx2⟩ := Cx.out.cells3
     have ltx := Cx.out.lt
     obtain ⟨cz0, cz1, cz2⟩ := Cz.out.cells3
     have ltz := Cz.out.lt
     go_wp2_with fail
     refine (tTail_c _ m k _ y FP.out).mono ?_
     rw [HOT.out]
     rintro e w10 ⟨v, rfl, hv, hb10⟩
     have hv : IsF _ v (ot.1) := hv
     obtain ⟨va, vb, rfl, h1, h2⟩ := hv
     obtain ⟨ps, ms, rfl, _, _⟩ := h1.shape
     obtain ⟨qs, ns, rfl, _, _⟩ := h2.shape
     have Fs := Lib.hid (IsF.at_ h1 h2)
     clear h1 h2
     clear cP0 cP1 cP2 ltP cQ0 cQ1 cQ2 ltQ cx0 cx1 cx2 ltx cz0 cz1 cz2 ltz
     replace CP := Lib.hid (CP.out.after hb10)
     replace CQ := Lib.hid (CQ.out.after hb10)
     replace Cx := Lib.hid (Cx.out.after hb10)
     replace Cz := Lib.hid (Cz.out.after hb10)
     replace FP := Lib.hid (FP.out.after hb10)
     replace FQ := Lib.hid (FQ.out.after hb10)
     replace Fx := Lib.hid (Fx.out.after hb10)
     replace Fz := Lib.hid (Fz.out.after hb10)
     replace HB := Lib.hid (HB.out.trans (hb10.mono HB.out.size))
     clear hb10
     obtain ⟨cP0, cP1, cP2⟩ := CP.out.cells3
     have ltP := CP.out.lt
     obtain ⟨cQ0, cQ1, cQ2⟩ := CQ.out.cells3
     have ltQ := CQ.out.lt
     obtain ⟨cx0, cx1, cx2⟩ := Cx.out.cells3
     have ltx := Cx.out.lt
     have zx0 := Cx.out.frozen 0
     have zx1 := Cx.out.frozen 1
     have zx2 := Cx.out.frozen 2
     obtain ⟨cz0, cz1, cz2⟩ := Cz.out.cells3
     have ltz := Cz.out.lt
     go_wp2_with fail
     refine (rTail_c _ m k _ y (FQ.out.set3 Cx.out (fun _ h => by cases h) (fun _ h => by cases h) (fun _ h => by cases h) _ _ _)).mono ?_
     rw [HOT.out]
     rintro e w11 ⟨v, rfl, hv, hb11⟩
     have hv : IsF _ v (ot.1) := hv
     obtain ⟨va, vb, rfl, h1, h2⟩ := hv
     obtain ⟨pt, mt, rfl, _, _⟩ := h1.shape
     obtain ⟨qt, nt, rfl, _, _⟩ := h2.shape
     have Ft := Lib.hid (IsF.at_ h1 h2)
     clear h1 h2
     clear cP0 cP1 cP2 ltP cQ0 cQ1 cQ2 ltQ cx0 cx1 cx2 ltx zx0 zx1 zx2 cz0 cz1 cz2 ltz
     obtain ⟨KB, KS, KW, NC⟩ := after_set Cx.out (fun _ h => by cases h) (fun _ h => by cases h) (fun _ h => by cases h) hb11
     replace CP := Lib.hid (KB _ _ _ (by omega) CP.out)
     replace CQ := Lib.hid (KB _ _ _ (by omega) CQ.out)
     replace Cz := Lib.hid (KB _ _ _ (by omega) Cz.out)
     replace Cx := Lib.hid NC
     replace FP := Lib.hid (FP.out.via KS)
     replace FQ := Lib.hid (FQ.out.via KS)
     replace Fx := Lib.hid (Fx.out.via KS)
     replace Fz := Lib.hid (Fz.out.via KS)
     replace Fs := Lib.hid (Fs.out.via KS)
     replace HB := Lib.hid (KW _ _ HB.out (by omega))
     clear KB KS KW NC hb11
     obtain ⟨cP0, cP1, cP2⟩ := CP.out.cells3
     have ltP := CP.out.lt
     obtain ⟨cQ0, cQ1, cQ2⟩ := CQ.out.cells3
     have ltQ := CQ.out.lt
     obtain ⟨cx0, cx1, cx2⟩ := Cx.out.cells3
     have ltx := Cx.out.lt
     obtain ⟨cz0, cz1, cz2⟩ := Cz.out.cells3
     have ltz := Cz.out.lt
     have zz0 := Cz.out.frozen 0
     have zz1 := Cz.out.frozen 1
     have zz2 := Cz.out.frozen 2
     go_wp2_with fail
     refine (Same_c _ _ _ ot.1 ot.1 (Fs.out.set3 Cz.out (fun _ h => by cases h) (fun _ h => by cases h) (fun _ h => by cases h) _ _ _) (Ft.out.set3 Cz.out (fun _ h => by cases h) (fun _ h => by cases h) (fun _ h => by cases h) _ _ _)).mono ?_
     intro e w12 hr
     obtain ⟨rfl, hb12⟩ := hr.yes rfl
     clear hr
     clear cP0 cP1 cP2 ltP cQ0 cQ1 cQ2 ltQ cx0 cx1 cx2 ltx cz0 cz1 cz2 ltz zz0 zz1 zz2
     obtain ⟨KB, KS, KW, NC⟩ := after_set Cz.out (fun _ h => by cases h) (fun _ h => by cases h) (fun _ h => by cases h) hb12
     replace CP := Lib.hid (KB _ _ _ (by omega) CP.out)
     replace CQ := Lib.hid (KB _ _ _ (by omega) CQ.out)
     replace Cx := Lib.hid (KB _ _ _ (by omega) Cx.out)
     replace Cz := Lib.hid NC
     replace FP := Lib.hid (FP.out.via KS)
     replace FQ := Lib.hid (FQ.out.via KS)
     replace Fx := Lib.hid (Fx.out.via KS)
     replace Fz := Lib.hid (Fz.out.via KS)
     replace Fs := Lib.hid (Fs.out.via KS)
     replace Ft := Lib.hid (Ft.out.via KS)
     replace HB := Lib.hid (KW _ _ HB.out (by omega))
     clear KB KS KW NC hb12
     obtain ⟨cP0, cP1, cP2⟩ := CP.out.cells3
     have ltP := CP.out.lt
     obtain ⟨cQ0, cQ1, cQ2⟩ := CQ.out.cells3
     have ltQ := CQ.out.lt
     obtain ⟨cx0, cx1, cx2⟩ := Cx.out.cells3
     have ltx := Cx.out.lt
     obtain ⟨cz0, cz1, cz2⟩ := Cz.out.cells3
     have ltz := Cz.out.lt
     go_wp2_with fail
     refine (Same_c _ _ _ y y FP.out FQ.out).mono ?_
     intro e w13 hr
     obtain ⟨rfl, hb13⟩ := hr.yes rfl
     clear hr
     clear cP0 cP1 cP2 ltP cQ0 cQ1 cQ2 ltQ cx0 cx1 cx2 ltx cz0 cz1 cz2 ltz
     replace CP := Lib.hid (CP.out.after hb13)
     replace CQ := Lib.hid (CQ.out.after hb13)
     replace Cx := Lib.hid (Cx.out.after hb13)
     replace Cz := Lib.hid (Cz.out.after hb13)
     replace FP := Lib.hid (FP.out.after hb13)
     replace FQ := Lib.hid (FQ.out.after hb13)
     replace Fx := Lib.hid (Fx.out.after hb13)
     replace Fz := Lib.hid (Fz.out.after hb13)
     replace Fs := Lib.hid (Fs.out.after hb13)
     replace Ft := Lib.hid (Ft.out.after hb13)
     replace HB := Lib.hid (HB.out.trans (hb13.mono HB.out.size))
     clear hb13
     obtain ⟨cP0, cP1, cP2⟩ := CP.out.cells3
     have ltP := CP.out.lt
     obtain ⟨cQ0, cQ1, cQ2⟩ := CQ.out.cells3
     have ltQ := CQ.out.lt
     obtain ⟨cx0, cx1, cx2⟩ := Cx.out.cells3
     have ltx := Cx.out.lt
     obtain ⟨cz0, cz1, cz2⟩ := Cz.out.cells3
     have ltz := Cz.out.lt
     go_wp2_with fail
     refine (works_c _).mono ?_
     rintro e w14 ⟨rfl, hb14⟩
     clear cP0 cP1 cP2 ltP cQ0 cQ1 cQ2 ltQ cx0 cx1 cx2 ltx cz0 cz1 cz2 ltz
     replace CP := Lib.hid (CP.out.after hb14)
     replace CQ := Lib.hid (CQ.out.after hb14)
     replace Cx := Lib.hid (Cx.out.after hb14)
     replace Cz := Lib.hid (Cz.out.after hb14)
     replace FP := Lib.hid (FP.out.after hb14)
     replace FQ := Lib.hid (FQ.out.after hb14)
     replace Fx := Lib.hid (Fx.out.after hb14)
     replace Fz := Lib.hid (Fz.out.after hb14)
     replace Fs := Lib.hid (Fs.out.after hb14)
     replace Ft := Lib.hid (Ft.out.after hb14)
     replace HB := Lib.hid (HB.out.trans (hb14.mono HB.out.size))
     clear hb14
     go_wp2_with fail
     go_ret
     exact ⟨rfl, HB.out⟩)
end Go.Proofs.Ytppehiajocgiiaa
