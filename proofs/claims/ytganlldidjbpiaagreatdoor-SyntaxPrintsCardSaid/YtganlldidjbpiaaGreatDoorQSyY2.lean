/- Syntax, the reference: formed. -/
import Derived.Test.YtganlldidjbpiaaGreatDoorQSyY1
import Derived.Test.YtganlldidjbpiaaGreatDoorK22
set_option linter.unusedVariables false
namespace Go.Proofs.YtganlldidjbpiaaGreatDoor
open Go.RowKit Go.Shelf

/-- Whether a clause is well formed, as the reference tells it. -/
def formH (item : Bool) (sub : Cl → Bool) (c : Cl) : Bool := match formF c.kind with
  | ((n, d, i, a, b, it), ok) => ok && (decide (it = item) && (numB c.idx i && (numB c.a a && (numB c.b b && ((if d = true then decide (domW c.dom ≠ []) else decide (c.dom = 0)) && ((if 0 ≤ n then decide ((c.names.length : Int) = n) else decide (c.names.length ≠ 0)) && (c.names.all nameB && (if c.kind = 1 then c.items.all sub else decide (c.items.length = 0)))))))))
set_option maxRecDepth 100000 in
set_option maxHeartbeats 16000000 in
theorem rformed_g (D : Nat → Prop) (item : Bool) (sub : Cl → Bool) (w : World) (c : Cl) (vn vi : Value) (h : HasC D w vn vi c) (hsub : item = false → ∀ x ∈ c.items, ∀ (W : World) (vn vi : Value), HasC D W vn vi x → Calls Tryz.prog 31 #[.agg (clV x vn vi).toArray, .bool true] W (RetB W (sub x))) :
    Calls Tryz.prog 31 #[.agg (clV c vn vi).toArray, .bool item] w (RetB w (formH item sub c)) := by
  obtain ⟨hnum, hnc, hic⟩ := hasC_iff.1 h
  obtain ⟨qn, cn, rfl, _, _, _⟩ := hnc.2.shape
  obtain ⟨qi, ci, rfl, _, _, _⟩ := hic.shape
  have hkd := hnum.1
  have hdm := hnum.2.1
  obtain ⟨v0, hv0⟩ : ∃ v0, v0 = w.alloc (.cells #[.int .u8 (c.kind : Int), .slice qn c.names.length cn, .int .u8 (c.dom : Int), .int .i64 c.idx, .int .i64 c.a, .int .i64 c.b, .slice qi c.items.length ci, .int .i64 c.off] 43) := ⟨_, rfl⟩
  have hb0 : Below w.heap.size w v0 := hv0 ▸ held_alloc (Below.refl _ w)
  have bx : Box v0 w.heap.size #[.int .u8 (c.kind : Int), .slice qn c.names.length cn, .int .u8 (c.dom : Int), .int .i64 c.idx, .int .i64 c.a, .int .i64 c.b, .slice qi c.items.length ci, .int .i64 c.off] 43 := hv0 ▸ Box.new w _ _
  have z0 : v0.cell? ⟨w.heap.size, 0, none⟩ = some (.int .u8 (c.kind : Int)) := bx.cell 0
  have lx := bx.lt
  obtain ⟨R, hR⟩ : ∃ R, formH item sub c = R := ⟨_, rfl⟩
  rw [hR]
  have HR := Lib.hid hR
  obtain ⟨⟨⟨n, d, i, a, b, it⟩, ok⟩, hG⟩ : ∃ G, formF c.kind = G := ⟨_, rfl⟩
  have HG := Lib.hid hG
  have HN := Lib.hid (hnc.fx (S := fun _ => False) (Fx.of_below hb0) (fun _ _ _ e => e))
  have HI := Lib.hid (hic.after hb0)
  have HX := Lib.hid bx
  have HB := Lib.hid hb0
  have HSUB := Lib.hid hsub
  clear hR hG h hnum hnc hic bx hb0 hsub
  unfold clV
  go_enter Tryz.func31, Tryz.ntmps31
  go_upto_region 1 with fail
  rw [← hv0]
  clear hv0
  go_wp2_with fail
  refine (rformOf_c _ c.kind hkd).mono ?_
  rw [HG.out]
  rintro e v1 ⟨rfl, hb⟩
  have HB0 := Lib.hid (HB.out.trans (hb.mono HB.out.size))
  replace HX := Lib.hid (HX.out.after hb)
  replace HN := Lib.hid (HN.out.fx (S := fun _ => False) (Fx.of_below hb) (fun _ _ _ e => e))
  replace HI := Lib.hid (HI.out.after hb)
  clear hb HB z0 lx
  obtain ⟨u1, hu1⟩ : ∃ u1, u1 = v1.alloc (.cells #[.int .i64 n, .bool d, .bool i, .bool a, .bool b, .bool it] 96) := ⟨_, rfl⟩
  have hb : Below v1.heap.size v1 u1 := hu1 ▸ held_alloc (Below.refl _ v1)
  have HF : Hid (Box u1 v1.heap.size #[.int .i64 n, .bool d, .bool i, .bool a, .bool b, .bool it] 96) := hu1 ▸ Box.new v1 _ _
  have HB1 := Lib.hid (HB0.out.trans (hb.mono HB0.out.size))
  replace HX := Lib.hid (HX.out.after hb)
  replace HN := Lib.hid (HN.out.fx (S := fun _ => False) (Fx.of_below hb) (fun _ _ _ e => e))
  replace HI := Lib.hid (HI.out.after hb)
  clear hb
  go_upto_region 2 with fail
  rw [← hu1]
  clear hu1
  cases ok with
  | false =>
    go_wp2_with fail
    have HE : Hid (R = false) := by
      show _ = _
      rw [← HR.out]
      unfold formH
      rw [HG.out]
      simp []
    go_ret
    rw [HE.out]
    exact ⟨rfl, HB1.out⟩
  | true =>
    by_cases hit : it = item
    · subst hit
      have qit : (it != it) = false := by simp
      have HIT : Hid (it = it) := Eq.refl it
      have z3 : u1.cell? ⟨w.heap.size, 3, none⟩ = some (.int .i64 c.idx) := HX.out.cell 3
      have y2 : u1.cell? ⟨v1.heap.size, 2, none⟩ = some (.bool i) := HF.out.cell 2
      have y5 : u1.cell? ⟨v1.heap.size, 5, none⟩ = some (.bool it) := HF.out.cell 5
      have lx := HX.out.lt
      have lf := HF.out.lt
      go_wp2_with fail
      clear z3 y2 y5 lx lf
      refine (rnumB_c _ c.idx i).mono ?_
      rintro e u2 ⟨rfl, hb⟩
      have HB2 := Lib.hid (HB1.out.trans (hb.mono HB1.out.size))
      replace HX := Lib.hid (HX.out.after hb)
      replace HF := Lib.hid (HF.out.after hb)
      replace HN := Lib.hid (HN.out.fx (S := fun _ => False) (Fx.of_below hb) (fun _ _ _ e => e))
      replace HI := Lib.hid (HI.out.after hb)
      clear hb
      cases hq0 : numB c.idx i with
      | false =>
        have HQ0 := Lib.hid hq0
        clear hq0
        go_wp2_with fail
        have HE : Hid (R = false) := by
          show _ = _
          rw [← HR.out]
          unfold formH
          rw [HG.out]
          simp [HQ0.out]
        go_ret
        rw [HE.out]
        exact ⟨rfl, HB2.out⟩
      | true =>
        have HQ0 := Lib.hid hq0
        clear hq0
        have z4 : u2.cell? ⟨w.heap.size, 4, none⟩ = some (.int .i64 c.a) := HX.out.cell 4
        have y3 : u2.cell? ⟨v1.heap.size, 3, none⟩ = some (.bool a) := HF.out.cell 3
        have lx := HX.out.lt
        have lf := HF.out.lt
        go_wp2_with fail
        clear z4 y3 lx lf
        refine (rnumB_c _ c.a a).mono ?_
        rintro e u3 ⟨rfl, hb⟩
        have HB3 := Lib.hid (HB2.out.trans (hb.mono HB2.out.size))
        replace HX := Lib.hid (HX.out.after hb)
        replace HF := Lib.hid (HF.out.after hb)
        replace HN := Lib.hid (HN.out.fx (S := fun _ => False) (Fx.of_below hb) (fun _ _ _ e => e))
        replace HI := Lib.hid (HI.out.after hb)
        clear hb
        cases hq1 : numB c.a a with
        | false =>
          have HQ1 := Lib.hid hq1
          clear hq1
          go_wp2_with fail
          have HE : Hid (R = false) := by
            show _ = _
            rw [← HR.out]
            unfold formH
            rw [HG.out]
            simp [HQ1.out]
          go_ret
          rw [HE.out]
          exact ⟨rfl, HB3.out⟩
        | true =>
          have HQ1 := Lib.hid hq1
          clear hq1
          have z5 : u3.cell? ⟨w.heap.size, 5, none⟩ = some (.int .i64 c.b) := HX.out.cell 5
          have y4 : u3.cell? ⟨v1.heap.size, 4, none⟩ = some (.bool b) := HF.out.cell 4
          have lx := HX.out.lt
          have lf := HF.out.lt
          go_wp2_with fail
          clear z5 y4 lx lf
          refine (rnumB_c _ c.b b).mono ?_
          rintro e u4 ⟨rfl, hb⟩
          have HB4 := Lib.hid (HB3.out.trans (hb.mono HB3.out.size))
          replace HX := Lib.hid (HX.out.after hb)
          replace HF := Lib.hid (HF.out.after hb)
          replace HN := Lib.hid (HN.out.fx (S := fun _ => False) (Fx.of_below hb) (fun _ _ _ e => e))
          replace HI := Lib.hid (HI.out.after hb)
          clear hb
          cases hq2 : numB c.b b with
          | false =>
            have HQ2 := Lib.hid hq2
            clear hq2
            go_wp2_with fail
            have HE : Hid (R = false) := by
              show _ = _
              rw [← HR.out]
              unfold formH
              rw [HG.out]
              simp [HQ2.out]
            go_ret
            rw [HE.out]
            exact ⟨rfl, HB4.out⟩
          | true =>
            have HQ2 := Lib.hid hq2
            clear hq2
            cases d with
            | true =>
              have y1 : u4.cell? ⟨v1.heap.size, 1, none⟩ = some (.bool true) := HF.out.cell 1
              have z2 : u4.cell? ⟨w.heap.size, 2, none⟩ = some (.int .u8 (c.dom : Int)) := HX.out.cell 2
              have lx := HX.out.lt
              have lf := HF.out.lt
              go_wp2_with fail
              clear y1 z2 lx lf
              refine (rscopeW_c _ c.dom hdm).mono ?_
              rintro e u5 ⟨rfl, hb⟩
              have HB5 := Lib.hid (HB4.out.trans (hb.mono HB4.out.size))
              replace HX := Lib.hid (HX.out.after hb)
              replace HF := Lib.hid (HF.out.after hb)
              replace HN := Lib.hid (HN.out.fx (S := fun _ => False) (Fx.of_below hb) (fun _ _ _ e => e))
              replace HI := Lib.hid (HI.out.after hb)
              clear hb
              have y1 : u5.cell? ⟨v1.heap.size, 1, none⟩ = some (.bool true) := HF.out.cell 1
              have lx := HX.out.lt
              have lf := HF.out.lt
              obtain ⟨dw, hdw⟩ : ∃ x, domW c.dom = x := ⟨_, rfl⟩
              rw [hdw]
              have HDW := Lib.hid hdw
              clear hdw
              by_cases he : dw = []
              · have qd : (bs dw).toList = [] := by rw [list_bs]; exact he
                have qd2 : (bs dw).toList.isEmpty = true := by rw [list_bs, he]; rfl
                have HE0 := Lib.hid he
                clear he
                go_wp2_with fail
                have HE : Hid (R = false) := by
                  show _ = _
                  rw [← HR.out]
                  unfold formH
                  rw [HG.out]
                  simp [HDW.out, HE0.out]
                go_ret
                rw [HE.out]
                exact ⟨rfl, HB5.out⟩
              · have qd : ¬ (bs dw).toList = [] := by rw [list_bs]; exact he
                have qd2 : (bs dw).toList.isEmpty = false := by rw [list_bs]; cases dw with | nil => exact absurd rfl he | cons => rfl
                have HD : Hid (R = ((if 0 ≤ n then decide ((c.names.length : Int) = n) else decide (c.names.length ≠ 0)) && (c.names.all nameB && (if c.kind = 1 then c.items.all sub else decide (c.items.length = 0))))) := by show _ = _; rw [← HR.out]; unfold formH; rw [HG.out]; simp [HQ0.out, HQ1.out, HQ2.out, HDW.out, he]
                clear he
                have y0 : u5.cell? ⟨v1.heap.size, 0, none⟩ = some (.int .i64 n) := HF.out.cell 0
                have z1 : u5.cell? ⟨w.heap.size, 1, none⟩ = some (.slice qn c.names.length cn) := HX.out.cell 1
                by_cases hn0 : 0 ≤ n
                · have qn0 : decide (0 ≤ n) = true := decide_eq_true hn0
                  have qn1 : decide (n < 0) = false := decide_eq_false (by omega)
                  by_cases hln : (c.names.length : Int) = n
                  · have ql : ((c.names.length : Int) != n) = false := bne_eq_false_iff_eq.2 hln
                    have HNM : Hid (R = (c.names.all nameB && (if c.kind = 1 then c.items.all sub else decide (c.items.length = 0)))) := by show _ = _; rw [HD.out, if_pos hn0, decide_eq_true hln]; rfl
                    clear hn0 hln
                    go_wp2_with fail
                    clear y0 z1 y1 lx lf
                    go_loopg [7] c.names.length (fun gn ti wx => ∃ j : Nat, j ≤ c.names.length ∧ gn = c.names.length - j ∧ ti = .int .i64 (j : Int) ∧ Hid (∀ m, m < j → nameB (c.names.getD m []) = true) ∧ Hid (Below u5.heap.size u5 wx))
                    case atStart => exact ⟨0, Nat.zero_le _, rfl, rfl, fun j hj => absurd hj (by omega), Below.refl _ _⟩
                    case round =>
                      obtain ⟨j, hj, rfl, rfl, hnm, hbl⟩ := hrel
                      have z1 : wr.cell? ⟨w.heap.size, 1, none⟩ = some (.slice qn c.names.length cn) := keep_cell hbl.out (HX.out.cell 1)
                      have lx := World.block_lt_of_cell? _ _ z1
                      simp only at lx
                      have HBW := Lib.hid (HB5.out.trans (hbl.out.mono HB5.out.size))
                      by_cases hlt : j < c.names.length
                      · obtain ⟨bp, op, cp, ep, _, _, _, lp, hcp⟩ := (HN.out.2.after hbl.out).at_ (by omega)
                        injection ep with ep _ ec
                        subst ep ec
                        have x0 : wr.cell? ⟨bp, op + j, none⟩ = some (.string (bs (c.names.getD j []))) := by have := hcp j hlt 0 (by omega); simpa using this
                        have hxl : (c.names.getD j []).length ≤ 9223372036854775807 := HN.out.1 _ (by rw [List.getD_eq_getElem?_getD, List.getElem?_eq_getElem hlt]; exact List.getElem_mem hlt)
                        clear hcp
                        have il : (j : Int) < (c.names.length : Int) := by omega
                        have i0 : (0 : Int) ≤ (j : Int) := by omega
                        obtain ⟨x, hx⟩ : ∃ x, c.names.getD j [] = x := ⟨_, rfl⟩
                        rw [hx] at x0 hxl
                        have HXN := Lib.hid hx
                        clear hx
                        go_wp2_with fail
                        refine (risName_c _ x hxl).mono ?_
                        rintro e w9 ⟨rfl, hb⟩
                        have HB9 := Lib.hid (hbl.out.trans (hb.mono hbl.out.size))
                        have HBZ := Lib.hid (HBW.out.trans (hb.mono HBW.out.size))
                        clear hb x0 z1 lx
                        cases hq : nameB x with
                        | false =>
                          have HQN := Lib.hid hq
                          clear hq
                          have HE : Hid (R = false) := by
                            show _ = _
                            rw [HNM.out]
                            have : c.names.all nameB = false := by
                              rw [List.all_eq_false]
                              refine ⟨x, ?_, by rw [HQN.out]; simp⟩
                              rw [← HXN.out, List.getD_eq_getElem?_getD, List.getElem?_eq_getElem hlt]; exact List.getElem_mem hlt
                            simp [this]
                          go_wp2_with fail
                          go_ret
                          rw [HE.out]
                          exact ⟨rfl, HBZ.out⟩
                        | true =>
                          have HQN := Lib.hid hq
                          clear hq
                          go_wp2_with fail
                          go_roundg (c.names.length - (j + 1))
                          case measure => omega
                          case rel =>
                            refine ⟨j + 1, by omega, rfl, by go_num, fun m hm => ?_, HB9.out⟩
                            rcases Nat.lt_or_ge m j with h | h
                            · exact hnm.out m h
                            · obtain rfl : m = j := by omega
                              rw [HXN.out]; exact HQN.out
                      · obtain rfl : j = c.names.length := by omega
                        have HAN : Hid (c.names.all nameB = true) := by
                          show _ = _
                          rw [List.all_eq_true]
                          intro y hy
                          obtain ⟨m, hm, rfl⟩ := List.getElem_of_mem hy
                          have := hnm.out m hm
                          rwa [List.getD_eq_getElem?_getD, List.getElem?_eq_getElem hm] at this
                        have z0 : wr.cell? ⟨w.heap.size, 0, none⟩ = some (.int .u8 (c.kind : Int)) := keep_cell hbl.out (HX.out.cell 0)
                        have z6 : wr.cell? ⟨w.heap.size, 6, none⟩ = some (.slice qi c.items.length ci) := keep_cell hbl.out (HX.out.cell 6)
                        by_cases hk1 : c.kind = 1
                        · have qk : ((c.kind : Int) != 1) = false := by simp; omega
                          have hitf : it = false := by have := HG.out; rw [hk1] at this; injection this with this _; injection this with _ this; injection this with _ this; injection this with _ this; injection this with _ this; injection this with _ this; exact this.symm
                          have HS2 := Lib.hid (HSUB.out hitf)
                          have HRS : Hid (R = c.items.all sub) := by
                            show _ = _
                            rw [HNM.out, HAN.out, if_pos hk1]
                            rfl
                          clear hk1 hitf
                          have HIw := Lib.hid (HI.out.after hbl.out)
                          have HXw := Lib.hid (HX.out.after hbl.out)
                          obtain ⟨wb, hwb⟩ : ∃ wb, wb = wr.heap.size := ⟨_, rfl⟩
                          clear hwb wb
                          go_wp2_with fail
                          go_loopg [8] c.items.length (fun gn ti wx => ∃ j : Nat, j ≤ c.items.length ∧ gn = c.items.length - j ∧ ti = .int .i64 (j : Int) ∧ Hid (∀ m, m < j → sub (c.items.getD m cl0) = true) ∧ Hid (Below w.heap.size w wx) ∧ Hid (SlC D wx (.slice qi c.items.length ci) c.items) ∧ Hid (Box wx w.heap.size #[.int .u8 (c.kind : Int), .slice qn c.names.length cn, .int .u8 (c.dom : Int), .int .i64 c.idx, .int .i64 c.a, .int .i64 c.b, .slice qi c.items.length ci, .int .i64 c.off] 43))
                          case atStart => exact ⟨0, Nat.zero_le _, rfl, rfl, fun j hj => absurd hj (by omega), HBW.out, HIw.out, HXw.out⟩
                          case round =>
                            obtain ⟨j, hj, rfl, rfl, hsb, hbw, hiw, hxw⟩ := hrel
                            have z6 : wr.cell? ⟨w.heap.size, 6, none⟩ = some (.slice qi c.items.length ci) := hxw.out.cell 6
                            have lx6 := hxw.out.lt
                            by_cases hlt : j < c.items.length
                            · obtain ⟨bi, oi, ci', ei, _, _, _, li, hci⟩ := hiw.out.at_ (by omega)
                              injection ei with ei _ ec
                              subst ei ec
                              obtain ⟨vn, vi, hc, x0, x1, x2, x3, x4, x5, x6, x7⟩ := hci j hlt
                              have hmem : c.items.getD j cl0 ∈ c.items := by rw [List.getD_eq_getElem?_getD, List.getElem?_eq_getElem hlt]; exact List.getElem_mem hlt
                              have HCALL := Lib.hid (HS2.out _ hmem wr vn vi hc)
                              obtain ⟨x, hx⟩ : ∃ x, c.items.getD j cl0 = x := ⟨_, rfl⟩
                              rw [hx] at x0 x2 x3 x4 x5 x7 HCALL hc
                              have HXN := Lib.hid hx
                              obtain ⟨qn2, cn2, rfl, _, _, _⟩ := (hasC_iff.1 hc).2.1.2.shape
                              obtain ⟨qi2, ci2, rfl, _, _, _⟩ := (hasC_iff.1 hc).2.2.shape
                              have il : (j : Int) < (c.items.length : Int) := by omega
                              have i0 : (0 : Int) ≤ (j : Int) := by omega
                              clear hci hmem hx hc
                              go_wp2_with fail
                              refine HCALL.out.mono ?_
                              rintro e w9 ⟨rfl, hb⟩
                              have HBZ := Lib.hid (hbw.out.trans (hb.mono hbw.out.size))
                              have HIZ := Lib.hid (hiw.out.after hb)
                              have HXZ := Lib.hid (hxw.out.after hb)
                              clear hb x0 x1 x2 x3 x4 x5 x6 x7 z6 lx6 HCALL
                              cases hq : sub x with
                              | false =>
                                have HQN := Lib.hid hq
                                clear hq
                                have HE : Hid (R = false) := by
                                  show _ = _
                                  rw [HRS.out, List.all_eq_false]
                                  refine ⟨x, ?_, by rw [HQN.out]; simp⟩
                                  rw [← HXN.out, List.getD_eq_getElem?_getD, List.getElem?_eq_getElem hlt]; exact List.getElem_mem hlt
                                go_wp2_with fail
                                go_ret
                                rw [HE.out]
                                exact ⟨rfl, HBZ.out⟩
                              | true =>
                                have HQN := Lib.hid hq
                                clear hq
                                go_wp2_with fail
                                go_roundg (c.items.length - (j + 1))
                                case measure => omega
                                case rel =>
                                  refine ⟨j + 1, by omega, rfl, by go_num, fun m hm => ?_, HBZ.out, HIZ.out, HXZ.out⟩
                                  rcases Nat.lt_or_ge m j with h | h
                                  · exact hsb.out m h
                                  · obtain rfl : m = j := by omega
                                    rw [HXN.out]; exact HQN.out
                            · obtain rfl : j = c.items.length := by omega
                              have HE : Hid (R = true) := by
                                show _ = _
                                rw [HRS.out, List.all_eq_true]
                                intro y hy
                                obtain ⟨m, hm, rfl⟩ := List.getElem_of_mem hy
                                have := hsb.out m hm
                                rwa [List.getD_eq_getElem?_getD, List.getElem?_eq_getElem hm] at this
                              go_wp2_with fail
                              go_ret
                              rw [HE.out]
                              exact ⟨rfl, hbw.out⟩
                        · have qk : ((c.kind : Int) != 1) = true := by simp; omega
                          have HE : Hid (((c.items.length : Int) == 0) = R) := by
                            show _ = _
                            rw [HNM.out, HAN.out, if_neg hk1, Bool.true_and]
                            by_cases h : c.items.length = 0
                            · rw [h]; rfl
                            · rw [decide_eq_false h]; exact beq_eq_false_iff_ne.2 (by omega)
                          clear hk1
                          go_wp2_with fail
                          go_ret
                          exact ⟨ret_bool HE.out, HBW.out⟩
                  · have ql : ((c.names.length : Int) != n) = true := bne_iff_ne.2 hln
                    have H1 := Lib.hid hn0
                    have H2 := Lib.hid hln
                    clear hn0
                    go_wp2_with fail
                    have HE : Hid (R = false) := by
                      show _ = _
                      rw [← HR.out]
                      unfold formH
                      rw [HG.out]
                      simp [H1.out, H2.out]
                    go_ret
                    rw [HE.out]
                    exact ⟨rfl, HB5.out⟩
                · have qn0 : decide (0 ≤ n) = false := decide_eq_false hn0
                  have qn1 : decide (n < 0) = true := decide_eq_true (by omega)
                  by_cases hln : c.names.length = 0
                  · have ql : ((c.names.length : Int) == 0) = true := by rw [hln]; rfl
                    have H1 := Lib.hid hn0
                    have H2 := Lib.hid hln
                    clear hn0 hln
                    go_wp2_with fail
                    have HE : Hid (R = false) := by show _ = _; rw [HD.out, if_neg (by have := H1.out; omega), decide_eq_false (fun h => h H2.out)]; rfl
                    go_ret
                    rw [HE.out]
                    exact ⟨rfl, HB5.out⟩
                  · have ql : ((c.names.length : Int) == 0) = false := beq_eq_false_iff_ne.2 (by omega)
                    have HNM : Hid (R = (c.names.all nameB && (if c.kind = 1 then c.items.all sub else decide (c.items.length = 0)))) := by show _ = _; rw [HD.out, if_neg hn0, decide_eq_true hln]; rfl
                    clear hn0 hln
                    go_wp2_with fail
                    clear y0 z1 y1 lx lf
                    go_loopg [7] c.names.length (fun gn ti wx => ∃ j : Nat, j ≤ c.names.length ∧ gn = c.names.length - j ∧ ti = .int .i64 (j : Int) ∧ Hid (∀ m, m < j → nameB (c.names.getD m []) = true) ∧ Hid (Below u5.heap.size u5 wx))
                    case atStart => exact ⟨0, Nat.zero_le _, rfl, rfl, fun j hj => absurd hj (by omega), Below.refl _ _⟩
                    case round =>
                      obtain ⟨j, hj, rfl, rfl, hnm, hbl⟩ := hrel
                      have z1 : wr.cell? ⟨w.heap.size, 1, none⟩ = some (.slice qn c.names.length cn) := keep_cell hbl.out (HX.out.cell 1)
                      have lx := World.block_lt_of_cell? _ _ z1
                      simp only at lx
                      have HBW := Lib.hid (HB5.out.trans (hbl.out.mono HB5.out.size))
                      by_cases hlt : j < c.names.length
                      · obtain ⟨bp, op, cp, ep, _, _, _, lp, hcp⟩ := (HN.out.2.after hbl.out).at_ (by omega)
                        injection ep with ep _ ec
                        subst ep ec
                        have x0 : wr.cell? ⟨bp, op + j, none⟩ = some (.string (bs (c.names.getD j []))) := by have := hcp j hlt 0 (by omega); simpa using this
                        have hxl : (c.names.getD j []).length ≤ 9223372036854775807 := HN.out.1 _ (by rw [List.getD_eq_getElem?_getD, List.getElem?_eq_getElem hlt]; exact List.getElem_mem hlt)
                        clear hcp
                        have il : (j : Int) < (c.names.length : Int) := by omega
                        have i0 : (0 : Int) ≤ (j : Int) := by omega
                        obtain ⟨x, hx⟩ : ∃ x, c.names.getD j [] = x := ⟨_, rfl⟩
                        rw [hx] at x0 hxl
                        have HXN := Lib.hid hx
                        clear hx
                        go_wp2_with fail
                        refine (risName_c _ x hxl).mono ?_
                        rintro e w9 ⟨rfl, hb⟩
                        have HB9 := Lib.hid (hbl.out.trans (hb.mono hbl.out.size))
                        have HBZ := Lib.hid (HBW.out.trans (hb.mono HBW.out.size))
                        clear hb x0 z1 lx
                        cases hq : nameB x with
                        | false =>
                          have HQN := Lib.hid hq
                          clear hq
                          have HE : Hid (R = false) := by
                            show _ = _
                            rw [HNM.out]
                            have : c.names.all nameB = false := by
                              rw [List.all_eq_false]
                              refine ⟨x, ?_, by rw [HQN.out]; simp⟩
                              rw [← HXN.out, List.getD_eq_getElem?_getD, List.getElem?_eq_getElem hlt]; exact List.getElem_mem hlt
                            simp [this]
                          go_wp2_with fail
                          go_ret
                          rw [HE.out]
                          exact ⟨rfl, HBZ.out⟩
                        | true =>
                          have HQN := Lib.hid hq
                          clear hq
                          go_wp2_with fail
                          go_roundg (c.names.length - (j + 1))
                          case measure => omega
                          case rel =>
                            refine ⟨j + 1, by omega, rfl, by go_num, fun m hm => ?_, HB9.out⟩
                            rcases Nat.lt_or_ge m j with h | h
                            · exact hnm.out m h
                            · obtain rfl : m = j := by omega
                              rw [HXN.out]; exact HQN.out
                      · obtain rfl : j = c.names.length := by omega
                        have HAN : Hid (c.names.all nameB = true) := by
                          show _ = _
                          rw [List.all_eq_true]
                          intro y hy
                          obtain ⟨m, hm, rfl⟩ := List.getElem_of_mem hy
                          have := hnm.out m hm
                          rwa [List.getD_eq_getElem?_getD, List.getElem?_eq_getElem hm] at this
                        have z0 : wr.cell? ⟨w.heap.size, 0, none⟩ = some (.int .u8 (c.kind : Int)) := keep_cell hbl.out (HX.out.cell 0)
                        have z6 : wr.cell? ⟨w.heap.size, 6, none⟩ = some (.slice qi c.items.length ci) := keep_cell hbl.out (HX.out.cell 6)
                        by_cases hk1 : c.kind = 1
                        · have qk : ((c.kind : Int) != 1) = false := by simp; omega
                          have hitf : it = false := by have := HG.out; rw [hk1] at this; injection this with this _; injection this with _ this; injection this with _ this; injection this with _ this; injection this with _ this; injection this with _ this; exact this.symm
                          have HS2 := Lib.hid (HSUB.out hitf)
                          have HRS : Hid (R = c.items.all sub) := by
                            show _ = _
                            rw [HNM.out, HAN.out, if_pos hk1]
                            rfl
                          clear hk1 hitf
                          have HIw := Lib.hid (HI.out.after hbl.out)
                          have HXw := Lib.hid (HX.out.after hbl.out)
                          obtain ⟨wb, hwb⟩ : ∃ wb, wb = wr.heap.size := ⟨_, rfl⟩
                          clear hwb wb
                          go_wp2_with fail
                          go_loopg [8] c.items.length (fun gn ti wx => ∃ j : Nat, j ≤ c.items.length ∧ gn = c.items.length - j ∧ ti = .int .i64 (j : Int) ∧ Hid (∀ m, m < j → sub (c.items.getD m cl0) = true) ∧ Hid (Below w.heap.size w wx) ∧ Hid (SlC D wx (.slice qi c.items.length ci) c.items) ∧ Hid (Box wx w.heap.size #[.int .u8 (c.kind : Int), .slice qn c.names.length cn, .int .u8 (c.dom : Int), .int .i64 c.idx, .int .i64 c.a, .int .i64 c.b, .slice qi c.items.length ci, .int .i64 c.off] 43))
                          case atStart => exact ⟨0, Nat.zero_le _, rfl, rfl, fun j hj => absurd hj (by omega), HBW.out, HIw.out, HXw.out⟩
                          case round =>
                            obtain ⟨j, hj, rfl, rfl, hsb, hbw, hiw, hxw⟩ := hrel
                            have z6 : wr.cell? ⟨w.heap.size, 6, none⟩ = some (.slice qi c.items.length ci) := hxw.out.cell 6
                            have lx6 := hxw.out.lt
                            by_cases hlt : j < c.items.length
                            · obtain ⟨bi, oi, ci', ei, _, _, _, li, hci⟩ := hiw.out.at_ (by omega)
                              injection ei with ei _ ec
                              subst ei ec
                              obtain ⟨vn, vi, hc, x0, x1, x2, x3, x4, x5, x6, x7⟩ := hci j hlt
                              have hmem : c.items.getD j cl0 ∈ c.items := by rw [List.getD_eq_getElem?_getD, List.getElem?_eq_getElem hlt]; exact List.getElem_mem hlt
                              have HCALL := Lib.hid (HS2.out _ hmem wr vn vi hc)
                              obtain ⟨x, hx⟩ : ∃ x, c.items.getD j cl0 = x := ⟨_, rfl⟩
                              rw [hx] at x0 x2 x3 x4 x5 x7 HCALL hc
                              have HXN := Lib.hid hx
                              obtain ⟨qn2, cn2, rfl, _, _, _⟩ := (hasC_iff.1 hc).2.1.2.shape
                              obtain ⟨qi2, ci2, rfl, _, _, _⟩ := (hasC_iff.1 hc).2.2.shape
                              have il : (j : Int) < (c.items.length : Int) := by omega
                              have i0 : (0 : Int) ≤ (j : Int) := by omega
                              clear hci hmem hx hc
                              go_wp2_with fail
                              refine HCALL.out.mono ?_
                              rintro e w9 ⟨rfl, hb⟩
                              have HBZ := Lib.hid (hbw.out.trans (hb.mono hbw.out.size))
                              have HIZ := Lib.hid (hiw.out.after hb)
                              have HXZ := Lib.hid (hxw.out.after hb)
                              clear hb x0 x1 x2 x3 x4 x5 x6 x7 z6 lx6 HCALL
                              cases hq : sub x with
                              | false =>
                                have HQN := Lib.hid hq
                                clear hq
                                have HE : Hid (R = false) := by
                                  show _ = _
                                  rw [HRS.out, List.all_eq_false]
                                  refine ⟨x, ?_, by rw [HQN.out]; simp⟩
                                  rw [← HXN.out, List.getD_eq_getElem?_getD, List.getElem?_eq_getElem hlt]; exact List.getElem_mem hlt
                                go_wp2_with fail
                                go_ret
                                rw [HE.out]
                                exact ⟨rfl, HBZ.out⟩
                              | true =>
                                have HQN := Lib.hid hq
                                clear hq
                                go_wp2_with fail
                                go_roundg (c.items.length - (j + 1))
                                case measure => omega
                                case rel =>
                                  refine ⟨j + 1, by omega, rfl, by go_num, fun m hm => ?_, HBZ.out, HIZ.out, HXZ.out⟩
                                  rcases Nat.lt_or_ge m j with h | h
                                  · exact hsb.out m h
                                  · obtain rfl : m = j := by omega
                                    rw [HXN.out]; exact HQN.out
                            · obtain rfl : j = c.items.length := by omega
                              have HE : Hid (R = true) := by
                                show _ = _
                                rw [HRS.out, List.all_eq_true]
                                intro y hy
                                obtain ⟨m, hm, rfl⟩ := List.getElem_of_mem hy
                                have := hsb.out m hm
                                rwa [List.getD_eq_getElem?_getD, List.getElem?_eq_getElem hm] at this
                              go_wp2_with fail
                              go_ret
                              rw [HE.out]
                              exact ⟨rfl, hbw.out⟩
                        · have qk : ((c.kind : Int) != 1) = true := by simp; omega
                          have HE : Hid (((c.items.length : Int) == 0) = R) := by
                            show _ = _
                            rw [HNM.out, HAN.out, if_neg hk1, Bool.true_and]
                            by_cases h : c.items.length = 0
                            · rw [h]; rfl
                            · rw [decide_eq_false h]; exact beq_eq_false_iff_ne.2 (by omega)
                          clear hk1
                          go_wp2_with fail
                          go_ret
                          exact ⟨ret_bool HE.out, HBW.out⟩
            | false =>
              have y1 : u4.cell? ⟨v1.heap.size, 1, none⟩ = some (.bool false) := HF.out.cell 1
              have z2 : u4.cell? ⟨w.heap.size, 2, none⟩ = some (.int .u8 (c.dom : Int)) := HX.out.cell 2
              have lx := HX.out.lt
              have lf := HF.out.lt
              by_cases he : c.dom = 0
              · have qd : ((c.dom : Int) != 0) = false := by simp; omega
                have HD : Hid (R = ((if 0 ≤ n then decide ((c.names.length : Int) = n) else decide (c.names.length ≠ 0)) && (c.names.all nameB && (if c.kind = 1 then c.items.all sub else decide (c.items.length = 0))))) := by show _ = _; rw [← HR.out]; unfold formH; rw [HG.out]; simp [HQ0.out, HQ1.out, HQ2.out, he]
                clear he
                have y0 : u4.cell? ⟨v1.heap.size, 0, none⟩ = some (.int .i64 n) := HF.out.cell 0
                have z1 : u4.cell? ⟨w.heap.size, 1, none⟩ = some (.slice qn c.names.length cn) := HX.out.cell 1
                by_cases hn0 : 0 ≤ n
                · have qn0 : decide (0 ≤ n) = true := decide_eq_true hn0
                  have qn1 : decide (n < 0) = false := decide_eq_false (by omega)
                  by_cases hln : (c.names.length : Int) = n
                  · have ql : ((c.names.length : Int) != n) = false := bne_eq_false_iff_eq.2 hln
                    have HNM : Hid (R = (c.names.all nameB && (if c.kind = 1 then c.items.all sub else decide (c.items.length = 0)))) := by show _ = _; rw [HD.out, if_pos hn0, decide_eq_true hln]; rfl
                    clear hn0 hln
                    go_wp2_with fail
                    clear y0 z1 y1 z2 lx lf
                    go_loopg [7] c.names.length (fun gn ti wx => ∃ j : Nat, j ≤ c.names.length ∧ gn = c.names.length - j ∧ ti = .int .i64 (j : Int) ∧ Hid (∀ m, m < j → nameB (c.names.getD m []) = true) ∧ Hid (Below u4.heap.size u4 wx))
                    case atStart => exact ⟨0, Nat.zero_le _, rfl, rfl, fun j hj => absurd hj (by omega), Below.refl _ _⟩
                    case round =>
                      obtain ⟨j, hj, rfl, rfl, hnm, hbl⟩ := hrel
                      have z1 : wr.cell? ⟨w.heap.size, 1, none⟩ = some (.slice qn c.names.length cn) := keep_cell hbl.out (HX.out.cell 1)
                      have lx := World.block_lt_of_cell? _ _ z1
                      simp only at lx
                      have HBW := Lib.hid (HB4.out.trans (hbl.out.mono HB4.out.size))
                      by_cases hlt : j < c.names.length
                      · obtain ⟨bp, op, cp, ep, _, _, _, lp, hcp⟩ := (HN.out.2.after hbl.out).at_ (by omega)
                        injection ep with ep _ ec
                        subst ep ec
                        have x0 : wr.cell? ⟨bp, op + j, none⟩ = some (.string (bs (c.names.getD j []))) := by have := hcp j hlt 0 (by omega); simpa using this
                        have hxl : (c.names.getD j []).length ≤ 9223372036854775807 := HN.out.1 _ (by rw [List.getD_eq_getElem?_getD, List.getElem?_eq_getElem hlt]; exact List.getElem_mem hlt)
                        clear hcp
                        have il : (j : Int) < (c.names.length : Int) := by omega
                        have i0 : (0 : Int) ≤ (j : Int) := by omega
                        obtain ⟨x, hx⟩ : ∃ x, c.names.getD j [] = x := ⟨_, rfl⟩
                        rw [hx] at x0 hxl
                        have HXN := Lib.hid hx
                        clear hx
                        go_wp2_with fail
                        refine (risName_c _ x hxl).mono ?_
                        rintro e w9 ⟨rfl, hb⟩
                        have HB9 := Lib.hid (hbl.out.trans (hb.mono hbl.out.size))
                        have HBZ := Lib.hid (HBW.out.trans (hb.mono HBW.out.size))
                        clear hb x0 z1 lx
                        cases hq : nameB x with
                        | false =>
                          have HQN := Lib.hid hq
                          clear hq
                          have HE : Hid (R = false) := by
                            show _ = _
                            rw [HNM.out]
                            have : c.names.all nameB = false := by
                              rw [List.all_eq_false]
                              refine ⟨x, ?_, by rw [HQN.out]; simp⟩
                              rw [← HXN.out, List.getD_eq_getElem?_getD, List.getElem?_eq_getElem hlt]; exact List.getElem_mem hlt
                            simp [this]
                          go_wp2_with fail
                          go_ret
                          rw [HE.out]
                          exact ⟨rfl, HBZ.out⟩
                        | true =>
                          have HQN := Lib.hid hq
                          clear hq
                          go_wp2_with fail
                          go_roundg (c.names.length - (j + 1))
                          case measure => omega
                          case rel =>
                            refine ⟨j + 1, by omega, rfl, by go_num, fun m hm => ?_, HB9.out⟩
                            rcases Nat.lt_or_ge m j with h | h
                            · exact hnm.out m h
                            · obtain rfl : m = j := by omega
                              rw [HXN.out]; exact HQN.out
                      · obtain rfl : j = c.names.length := by omega
                        have HAN : Hid (c.names.all nameB = true) := by
                          show _ = _
                          rw [List.all_eq_true]
                          intro y hy
                          obtain ⟨m, hm, rfl⟩ := List.getElem_of_mem hy
                          have := hnm.out m hm
                          rwa [List.getD_eq_getElem?_getD, List.getElem?_eq_getElem hm] at this
                        have z0 : wr.cell? ⟨w.heap.size, 0, none⟩ = some (.int .u8 (c.kind : Int)) := keep_cell hbl.out (HX.out.cell 0)
                        have z6 : wr.cell? ⟨w.heap.size, 6, none⟩ = some (.slice qi c.items.length ci) := keep_cell hbl.out (HX.out.cell 6)
                        by_cases hk1 : c.kind = 1
                        · have qk : ((c.kind : Int) != 1) = false := by simp; omega
                          have hitf : it = false := by have := HG.out; rw [hk1] at this; injection this with this _; injection this with _ this; injection this with _ this; injection this with _ this; injection this with _ this; injection this with _ this; exact this.symm
                          have HS2 := Lib.hid (HSUB.out hitf)
                          have HRS : Hid (R = c.items.all sub) := by
                            show _ = _
                            rw [HNM.out, HAN.out, if_pos hk1]
                            rfl
                          clear hk1 hitf
                          have HIw := Lib.hid (HI.out.after hbl.out)
                          have HXw := Lib.hid (HX.out.after hbl.out)
                          obtain ⟨wb, hwb⟩ : ∃ wb, wb = wr.heap.size := ⟨_, rfl⟩
                          clear hwb wb
                          go_wp2_with fail
                          go_loopg [8] c.items.length (fun gn ti wx => ∃ j : Nat, j ≤ c.items.length ∧ gn = c.items.length - j ∧ ti = .int .i64 (j : Int) ∧ Hid (∀ m, m < j → sub (c.items.getD m cl0) = true) ∧ Hid (Below w.heap.size w wx) ∧ Hid (SlC D wx (.slice qi c.items.length ci) c.items) ∧ Hid (Box wx w.heap.size #[.int .u8 (c.kind : Int), .slice qn c.names.length cn, .int .u8 (c.dom : Int), .int .i64 c.idx, .int .i64 c.a, .int .i64 c.b, .slice qi c.items.length ci, .int .i64 c.off] 43))
                          case atStart => exact ⟨0, Nat.zero_le _, rfl, rfl, fun j hj => absurd hj (by omega), HBW.out, HIw.out, HXw.out⟩
                          case round =>
                            obtain ⟨j, hj, rfl, rfl, hsb, hbw, hiw, hxw⟩ := hrel
                            have z6 : wr.cell? ⟨w.heap.size, 6, none⟩ = some (.slice qi c.items.length ci) := hxw.out.cell 6
                            have lx6 := hxw.out.lt
                            by_cases hlt : j < c.items.length
                            · obtain ⟨bi, oi, ci', ei, _, _, _, li, hci⟩ := hiw.out.at_ (by omega)
                              injection ei with ei _ ec
                              subst ei ec
                              obtain ⟨vn, vi, hc, x0, x1, x2, x3, x4, x5, x6, x7⟩ := hci j hlt
                              have hmem : c.items.getD j cl0 ∈ c.items := by rw [List.getD_eq_getElem?_getD, List.getElem?_eq_getElem hlt]; exact List.getElem_mem hlt
                              have HCALL := Lib.hid (HS2.out _ hmem wr vn vi hc)
                              obtain ⟨x, hx⟩ : ∃ x, c.items.getD j cl0 = x := ⟨_, rfl⟩
                              rw [hx] at x0 x2 x3 x4 x5 x7 HCALL hc
                              have HXN := Lib.hid hx
                              obtain ⟨qn2, cn2, rfl, _, _, _⟩ := (hasC_iff.1 hc).2.1.2.shape
                              obtain ⟨qi2, ci2, rfl, _, _, _⟩ := (hasC_iff.1 hc).2.2.shape
                              have il : (j : Int) < (c.items.length : Int) := by omega
                              have i0 : (0 : Int) ≤ (j : Int) := by omega
                              clear hci hmem hx hc
                              go_wp2_with fail
                              refine HCALL.out.mono ?_
                              rintro e w9 ⟨rfl, hb⟩
                              have HBZ := Lib.hid (hbw.out.trans (hb.mono hbw.out.size))
                              have HIZ := Lib.hid (hiw.out.after hb)
                              have HXZ := Lib.hid (hxw.out.after hb)
                              clear hb x0 x1 x2 x3 x4 x5 x6 x7 z6 lx6 HCALL
                              cases hq : sub x with
                              | false =>
                                have HQN := Lib.hid hq
                                clear hq
                                have HE : Hid (R = false) := by
                                  show _ = _
                                  rw [HRS.out, List.all_eq_false]
                                  refine ⟨x, ?_, by rw [HQN.out]; simp⟩
                                  rw [← HXN.out, List.getD_eq_getElem?_getD, List.getElem?_eq_getElem hlt]; exact List.getElem_mem hlt
                                go_wp2_with fail
                                go_ret
                                rw [HE.out]
                                exact ⟨rfl, HBZ.out⟩
                              | true =>
                                have HQN := Lib.hid hq
                                clear hq
                                go_wp2_with fail
                                go_roundg (c.items.length - (j + 1))
                                case measure => omega
                                case rel =>
                                  refine ⟨j + 1, by omega, rfl, by go_num, fun m hm => ?_, HBZ.out, HIZ.out, HXZ.out⟩
                                  rcases Nat.lt_or_ge m j with h | h
                                  · exact hsb.out m h
                                  · obtain rfl : m = j := by omega
                                    rw [HXN.out]; exact HQN.out
                            · obtain rfl : j = c.items.length := by omega
                              have HE : Hid (R = true) := by
                                show _ = _
                                rw [HRS.out, List.all_eq_true]
                                intro y hy
                                obtain ⟨m, hm, rfl⟩ := List.getElem_of_mem hy
                                have := hsb.out m hm
                                rwa [List.getD_eq_getElem?_getD, List.getElem?_eq_getElem hm] at this
                              go_wp2_with fail
                              go_ret
                              rw [HE.out]
                              exact ⟨rfl, hbw.out⟩
                        · have qk : ((c.kind : Int) != 1) = true := by simp; omega
                          have HE : Hid (((c.items.length : Int) == 0) = R) := by
                            show _ = _
                            rw [HNM.out, HAN.out, if_neg hk1, Bool.true_and]
                            by_cases h : c.items.length = 0
                            · rw [h]; rfl
                            · rw [decide_eq_false h]; exact beq_eq_false_iff_ne.2 (by omega)
                          clear hk1
                          go_wp2_with fail
                          go_ret
                          exact ⟨ret_bool HE.out, HBW.out⟩
                  · have ql : ((c.names.length : Int) != n) = true := bne_iff_ne.2 hln
                    have H1 := Lib.hid hn0
                    have H2 := Lib.hid hln
                    clear hn0
                    go_wp2_with fail
                    have HE : Hid (R = false) := by
                      show _ = _
                      rw [← HR.out]
                      unfold formH
                      rw [HG.out]
                      simp [H1.out, H2.out]
                    go_ret
                    rw [HE.out]
                    exact ⟨rfl, HB4.out⟩
                · have qn0 : decide (0 ≤ n) = false := decide_eq_false hn0
                  have qn1 : decide (n < 0) = true := decide_eq_true (by omega)
                  by_cases hln : c.names.length = 0
                  · have ql : ((c.names.length : Int) == 0) = true := by rw [hln]; rfl
                    have H1 := Lib.hid hn0
                    have H2 := Lib.hid hln
                    clear hn0 hln
                    go_wp2_with fail
                    have HE : Hid (R = false) := by show _ = _; rw [HD.out, if_neg (by have := H1.out; omega), decide_eq_false (fun h => h H2.out)]; rfl
                    go_ret
                    rw [HE.out]
                    exact ⟨rfl, HB4.out⟩
                  · have ql : ((c.names.length : Int) == 0) = false := beq_eq_false_iff_ne.2 (by omega)
                    have HNM : Hid (R = (c.names.all nameB && (if c.kind = 1 then c.items.all sub else decide (c.items.length = 0)))) := by show _ = _; rw [HD.out, if_neg hn0, decide_eq_true hln]; rfl
                    clear hn0 hln
                    go_wp2_with fail
                    clear y0 z1 y1 z2 lx lf
                    go_loopg [7] c.names.length (fun gn ti wx => ∃ j : Nat, j ≤ c.names.length ∧ gn = c.names.length - j ∧ ti = .int .i64 (j : Int) ∧ Hid (∀ m, m < j → nameB (c.names.getD m []) = true) ∧ Hid (Below u4.heap.size u4 wx))
                    case atStart => exact ⟨0, Nat.zero_le _, rfl, rfl, fun j hj => absurd hj (by omega), Below.refl _ _⟩
                    case round =>
                      obtain ⟨j, hj, rfl, rfl, hnm, hbl⟩ := hrel
                      have z1 : wr.cell? ⟨w.heap.size, 1, none⟩ = some (.slice qn c.names.length cn) := keep_cell hbl.out (HX.out.cell 1)
                      have lx := World.block_lt_of_cell? _ _ z1
                      simp only at lx
                      have HBW := Lib.hid (HB4.out.trans (hbl.out.mono HB4.out.size))
                      by_cases hlt : j < c.names.length
                      · obtain ⟨bp, op, cp, ep, _, _, _, lp, hcp⟩ := (HN.out.2.after hbl.out).at_ (by omega)
                        injection ep with ep _ ec
                        subst ep ec
                        have x0 : wr.cell? ⟨bp, op + j, none⟩ = some (.string (bs (c.names.getD j []))) := by have := hcp j hlt 0 (by omega); simpa using this
                        have hxl : (c.names.getD j []).length ≤ 9223372036854775807 := HN.out.1 _ (by rw [List.getD_eq_getElem?_getD, List.getElem?_eq_getElem hlt]; exact List.getElem_mem hlt)
                        clear hcp
                        have il : (j : Int) < (c.names.length : Int) := by omega
                        have i0 : (0 : Int) ≤ (j : Int) := by omega
                        obtain ⟨x, hx⟩ : ∃ x, c.names.getD j [] = x := ⟨_, rfl⟩
                        rw [hx] at x0 hxl
                        have HXN := Lib.hid hx
                        clear hx
                        go_wp2_with fail
                        refine (risName_c _ x hxl).mono ?_
                        rintro e w9 ⟨rfl, hb⟩
                        have HB9 := Lib.hid (hbl.out.trans (hb.mono hbl.out.size))
                        have HBZ := Lib.hid (HBW.out.trans (hb.mono HBW.out.size))
                        clear hb x0 z1 lx
                        cases hq : nameB x with
                        | false =>
                          have HQN := Lib.hid hq
                          clear hq
                          have HE : Hid (R = false) := by
                            show _ = _
                            rw [HNM.out]
                            have : c.names.all nameB = false := by
                              rw [List.all_eq_false]
                              refine ⟨x, ?_, by rw [HQN.out]; simp⟩
                              rw [← HXN.out, List.getD_eq_getElem?_getD, List.getElem?_eq_getElem hlt]; exact List.getElem_mem hlt
                            simp [this]
                          go_wp2_with fail
                          go_ret
                          rw [HE.out]
                          exact ⟨rfl, HBZ.out⟩
                        | true =>
                          have HQN := Lib.hid hq
                          clear hq
                          go_wp2_with fail
                          go_roundg (c.names.length - (j + 1))
                          case measure => omega
                          case rel =>
                            refine ⟨j + 1, by omega, rfl, by go_num, fun m hm => ?_, HB9.out⟩
                            rcases Nat.lt_or_ge m j with h | h
                            · exact hnm.out m h
                            · obtain rfl : m = j := by omega
                              rw [HXN.out]; exact HQN.out
                      · obtain rfl : j = c.names.length := by omega
                        have HAN : Hid (c.names.all nameB = true) := by
                          show _ = _
                          rw [List.all_eq_true]
                          intro y hy
                          obtain ⟨m, hm, rfl⟩ := List.getElem_of_mem hy
                          have := hnm.out m hm
                          rwa [List.getD_eq_getElem?_getD, List.getElem?_eq_getElem hm] at this
                        have z0 : wr.cell? ⟨w.heap.size, 0, none⟩ = some (.int .u8 (c.kind : Int)) := keep_cell hbl.out (HX.out.cell 0)
                        have z6 : wr.cell? ⟨w.heap.size, 6, none⟩ = some (.slice qi c.items.length ci) := keep_cell hbl.out (HX.out.cell 6)
                        by_cases hk1 : c.kind = 1
                        · have qk : ((c.kind : Int) != 1) = false := by simp; omega
                          have hitf : it = false := by have := HG.out; rw [hk1] at this; injection this with this _; injection this with _ this; injection this with _ this; injection this with _ this; injection this with _ this; injection this with _ this; exact this.symm
                          have HS2 := Lib.hid (HSUB.out hitf)
                          have HRS : Hid (R = c.items.all sub) := by
                            show _ = _
                            rw [HNM.out, HAN.out, if_pos hk1]
                            rfl
                          clear hk1 hitf
                          have HIw := Lib.hid (HI.out.after hbl.out)
                          have HXw := Lib.hid (HX.out.after hbl.out)
                          obtain ⟨wb, hwb⟩ : ∃ wb, wb = wr.heap.size := ⟨_, rfl⟩
                          clear hwb wb
                          go_wp2_with fail
                          go_loopg [8] c.items.length (fun gn ti wx => ∃ j : Nat, j ≤ c.items.length ∧ gn = c.items.length - j ∧ ti = .int .i64 (j : Int) ∧ Hid (∀ m, m < j → sub (c.items.getD m cl0) = true) ∧ Hid (Below w.heap.size w wx) ∧ Hid (SlC D wx (.slice qi c.items.length ci) c.items) ∧ Hid (Box wx w.heap.size #[.int .u8 (c.kind : Int), .slice qn c.names.length cn, .int .u8 (c.dom : Int), .int .i64 c.idx, .int .i64 c.a, .int .i64 c.b, .slice qi c.items.length ci, .int .i64 c.off] 43))
                          case atStart => exact ⟨0, Nat.zero_le _, rfl, rfl, fun j hj => absurd hj (by omega), HBW.out, HIw.out, HXw.out⟩
                          case round =>
                            obtain ⟨j, hj, rfl, rfl, hsb, hbw, hiw, hxw⟩ := hrel
                            have z6 : wr.cell? ⟨w.heap.size, 6, none⟩ = some (.slice qi c.items.length ci) := hxw.out.cell 6
                            have lx6 := hxw.out.lt
                            by_cases hlt : j < c.items.length
                            · obtain ⟨bi, oi, ci', ei, _, _, _, li, hci⟩ := hiw.out.at_ (by omega)
                              injection ei with ei _ ec
                              subst ei ec
                              obtain ⟨vn, vi, hc, x0, x1, x2, x3, x4, x5, x6, x7⟩ := hci j hlt
                              have hmem : c.items.getD j cl0 ∈ c.items := by rw [List.getD_eq_getElem?_getD, List.getElem?_eq_getElem hlt]; exact List.getElem_mem hlt
                              have HCALL := Lib.hid (HS2.out _ hmem wr vn vi hc)
                              obtain ⟨x, hx⟩ : ∃ x, c.items.getD j cl0 = x := ⟨_, rfl⟩
                              rw [hx] at x0 x2 x3 x4 x5 x7 HCALL hc
                              have HXN := Lib.hid hx
                              obtain ⟨qn2, cn2, rfl, _, _, _⟩ := (hasC_iff.1 hc).2.1.2.shape
                              obtain ⟨qi2, ci2, rfl, _, _, _⟩ := (hasC_iff.1 hc).2.2.shape
                              have il : (j : Int) < (c.items.length : Int) := by omega
                              have i0 : (0 : Int) ≤ (j : Int) := by omega
                              clear hci hmem hx hc
                              go_wp2_with fail
                              refine HCALL.out.mono ?_
                              rintro e w9 ⟨rfl, hb⟩
                              have HBZ := Lib.hid (hbw.out.trans (hb.mono hbw.out.size))
                              have HIZ := Lib.hid (hiw.out.after hb)
                              have HXZ := Lib.hid (hxw.out.after hb)
                              clear hb x0 x1 x2 x3 x4 x5 x6 x7 z6 lx6 HCALL
                              cases hq : sub x with
                              | false =>
                                have HQN := Lib.hid hq
                                clear hq
                                have HE : Hid (R = false) := by
                                  show _ = _
                                  rw [HRS.out, List.all_eq_false]
                                  refine ⟨x, ?_, by rw [HQN.out]; simp⟩
                                  rw [← HXN.out, List.getD_eq_getElem?_getD, List.getElem?_eq_getElem hlt]; exact List.getElem_mem hlt
                                go_wp2_with fail
                                go_ret
                                rw [HE.out]
                                exact ⟨rfl, HBZ.out⟩
                              | true =>
                                have HQN := Lib.hid hq
                                clear hq
                                go_wp2_with fail
                                go_roundg (c.items.length - (j + 1))
                                case measure => omega
                                case rel =>
                                  refine ⟨j + 1, by omega, rfl, by go_num, fun m hm => ?_, HBZ.out, HIZ.out, HXZ.out⟩
                                  rcases Nat.lt_or_ge m j with h | h
                                  · exact hsb.out m h
                                  · obtain rfl : m = j := by omega
                                    rw [HXN.out]; exact HQN.out
                            · obtain rfl : j = c.items.length := by omega
                              have HE : Hid (R = true) := by
                                show _ = _
                                rw [HRS.out, List.all_eq_true]
                                intro y hy
                                obtain ⟨m, hm, rfl⟩ := List.getElem_of_mem hy
                                have := hsb.out m hm
                                rwa [List.getD_eq_getElem?_getD, List.getElem?_eq_getElem hm] at this
                              go_wp2_with fail
                              go_ret
                              rw [HE.out]
                              exact ⟨rfl, hbw.out⟩
                        · have qk : ((c.kind : Int) != 1) = true := by simp; omega
                          have HE : Hid (((c.items.length : Int) == 0) = R) := by
                            show _ = _
                            rw [HNM.out, HAN.out, if_neg hk1, Bool.true_and]
                            by_cases h : c.items.length = 0
                            · rw [h]; rfl
                            · rw [decide_eq_false h]; exact beq_eq_false_iff_ne.2 (by omega)
                          clear hk1
                          go_wp2_with fail
                          go_ret
                          exact ⟨ret_bool HE.out, HBW.out⟩
              · have qd : ((c.dom : Int) != 0) = true := by simp; omega
                have HE0 := Lib.hid he
                clear he
                go_wp2_with fail
                have HE : Hid (R = false) := by
                  show _ = _
                  rw [← HR.out]
                  unfold formH
                  rw [HG.out]
                  simp [HE0.out]
                go_ret
                rw [HE.out]
                exact ⟨rfl, HB4.out⟩
    · have qit : (it != item) = true := by simpa using hit
      have HIT := Lib.hid hit
      have y5 : u1.cell? ⟨v1.heap.size, 5, none⟩ = some (.bool it) := HF.out.cell 5
      have lx := HX.out.lt
      have lf := HF.out.lt
      go_wp2_with fail
      have HE : Hid (R = false) := by
        show _ = _
        rw [← HR.out]
        unfold formH
        rw [HG.out]
        simp [HIT.out]
      go_ret
      rw [HE.out]
      exact ⟨rfl, HB1.out⟩
end Go.Proofs.YtganlldidjbpiaaGreatDoor
