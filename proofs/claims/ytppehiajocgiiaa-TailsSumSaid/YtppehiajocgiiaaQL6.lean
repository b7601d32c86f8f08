/- The walk of TailsSum: the parts of exactly 0 to n failures are together 1, and each tail is the next one and the part between. -/
import Derived.Test.YtppehiajocgiiaaQTq
import Derived.Test.YtppehiajocgiiaaK21
set_option linter.unusedVariables false
namespace Go.Proofs.Ytppehiajocgiiaa
open Go.RowKit

theorem VarF.of {w : World} {b : Nat} {x : F} {va vb : Value} (h : Box w b #[.bool x.neg, va, vb] 25) (k : IsF w (.agg #[.bool x.neg, va, vb]) x) : VarF w b x := by
  obtain ⟨_, h1, h2⟩ := k.parts
  exact ⟨va, vb, h, h1, h2⟩

set_option maxRecDepth 100000 in
set_option maxHeartbeats 8000000 in
theorem sum_walk (w : World) (n a b : Nat) (hn : n < 256) (ha : a < 256) (hb : b < 256) : Calls Try.prog 5 #[.int .u8 (n : Int), .int .u8 (a : Int), .int .u8 (b : Int)] w fun e w' => e = .returned (.bool true) ∧ Below w.heap.size w w' := by
  obtain ⟨α, β, hp, hok, hab, hb1000, _, _⟩ := of_small (j := a % (b % 30 + 2)) (den := b % 30 + 1) (by have := Nat.mod_lt a (show 0 < b % 30 + 2 by omega); omega) (by omega) (by omega)
  have HP : Hid ((ofF ((a % (b % 30 + 2) : Nat) : Int) ((b % 30 + 1 : Nat) : Int)).1 = fr false α β) := congrArg Prod.fst hp
  obtain ⟨m, hmn⟩ : ∃ m, n % 13 = m := ⟨_, rfl⟩
  have hm12 : m ≤ 12 := by omega
  have hm : (n : Int) % 13 = (m : Int) := by omega
  have HT : Hid (∀ k, k ≤ m + 1 → tailF (m : Int) (k : Int) (fr false α β) = (Tq α β m k, 0)) := fun k hk => (tailF_q hok hab hb1000 (by omega) hk).1
  have HE : Hid (∀ k, k ≤ m → exactlyF (m : Int) (k : Int) (fr false α β) = (Eq_ α β m k, 0)) := fun k hk => (exactlyF_q hok hab hb1000 (by omega) hk).1
  have HA : Hid (∀ k, k ≤ m → opF sumN (Tq α β m (k + 1)) (Eq_ α β m k) = (Tq α β m k, 0)) := fun k hk => Tq_add hok hab hb1000 (by omega) hk
  have HC : Hid (∀ k, k ≤ m → cmpF (Tq α β m k) (Tq α β m k) = (0, 0)) := fun k hk => cmpF_same (tailF_q hok hab hb1000 (by omega) (by omega)).2.valid
  have HL : Hid (Tq α β m (m + 1) = fr false 0 1) := Tq_last hok hab hb1000 (by omega)
  have HZ : Hid (Tq α β m 0 = fr false 1 1) := Tq_zero hok hab hb1000 (by omega)
  have HT1 : Hid (tailF (m : Int) ((m : Int) + 1) (fr false α β) = (Tq α β m (m + 1), 0)) := by
    have := HT.out (m + 1) (Nat.le_refl _)
    show _ = _
    rw [← this]; congr 1
  clear hp hmn
  have HB : Hid (Below w.heap.size w w) := Below.refl _ _
  go_enter Try.func5, Try.ntmps5
  go_wp2_with fail
  refine (lrate_c _ a b ha hb).mono ?_
  rw [HP.out]
  rintro e w1 ⟨v, rfl, hv, hb1⟩
  have hv : IsF _ v (fr false α β) := hv
  obtain ⟨va, vb, rfl, h1, h2⟩ := hv
  obtain ⟨pP, mP, rfl, _, _⟩ := h1.shape
  obtain ⟨qP, nP, rfl, _, _⟩ := h2.shape
  have FP := Lib.hid (IsF.at_ h1 h2)
  clear h1 h2
  replace HB := Lib.hid (HB.out.trans (hb1.mono HB.out.size))
  clear hb1
  have g_P : w.heap.size ≤ w1.heap.size := by have := HB.out.size; omega
  go_wp2_with fail
  refine (of_c _ 0 1 (by omega) (by omega) (by omega) (by omega)).mono ?_
  rw [w_01]
  rintro e w2 ⟨v, rfl, hv, hb2⟩
  have hv : IsF _ v (fr false 0 1) := hv
  obtain ⟨va, vb, rfl, h1, h2⟩ := hv
  obtain ⟨pS, mS, rfl, _, _⟩ := h1.shape
  obtain ⟨qS, nS, rfl, _, _⟩ := h2.shape
  have FS := Lib.hid (IsF.at_ h1 h2)
  clear h1 h2
  obtain ⟨hb2, CP⟩ := after_new hb2
  replace CP := Lib.hid CP
  replace FP := Lib.hid (FP.out.after hb2)
  replace HB := Lib.hid (HB.out.trans (hb2.mono HB.out.size))
  clear hb2
  have d_P_S : w1.heap.size < w2.heap.size := CP.out.lt
  have g_S : w.heap.size ≤ w2.heap.size := by have := HB.out.size; omega
  obtain ⟨cP0, cP1, cP2⟩ := CP.out.cells3
  have ltP := CP.out.lt
  go_wp2_with fail
  refine (tTail_c _ m ((m : Int) + 1) _ _ (FP.out.alloc _)).mono ?_
  rw [HT1.out]
  rintro e w3 ⟨v, rfl, hv, hb3⟩
  have hv : IsF _ v (Tq α β m (m + 1)) := hv
  obtain ⟨va, vb, rfl, h1, h2⟩ := hv
  obtain ⟨pN, mN, rfl, _, _⟩ := h1.shape
  obtain ⟨qN, nN, rfl, _, _⟩ := h2.shape
  have FN := Lib.hid (IsF.at_ h1 h2)
  clear h1 h2
  clear cP0 cP1 cP2 ltP
  obtain ⟨hb3, CS⟩ := after_new hb3
  replace CS := Lib.hid CS
  replace CP := Lib.hid (CP.out.after hb3)
  replace FP := Lib.hid (FP.out.after hb3)
  replace FS := Lib.hid (FS.out.after hb3)
  replace HB := Lib.hid (HB.out.trans (hb3.mono HB.out.size))
  clear hb3
  have d_P_N : w1.heap.size < w3.heap.size := CP.out.lt
  have d_S_N : w2.heap.size < w3.heap.size := CS.out.lt
  have g_N : w.heap.size ≤ w3.heap.size := by have := HB.out.size; omega
  obtain ⟨cP0, cP1, cP2⟩ := CP.out.cells3
  have ltP := CP.out.lt
  obtain ⟨cS0, cS1, cS2⟩ := CS.out.cells3
  have ltS := CS.out.lt
  go_wp2_with fail
  refine (is_c _ _ (Tq α β m (m + 1)) 0 0 1 (FN.out.alloc _) (by omega) (by omega) (by omega) (by omega)).mono ?_
  intro e w4 hr
  obtain ⟨rfl, hb4⟩ := hr.yes ⟨rfl, HL.out.trans w_01.symm⟩
  clear hr
  clear cP0 cP1 cP2 ltP cS0 cS1 cS2 ltS
  obtain ⟨hb4, CN⟩ := after_new hb4
  replace CN := Lib.hid CN
  replace CP := Lib.hid (CP.out.after hb4)
  replace CS := Lib.hid (CS.out.after hb4)
  replace FP := Lib.hid (FP.out.after hb4)
  replace FS := Lib.hid (FS.out.after hb4)
  replace FN := Lib.hid (FN.out.after hb4)
  replace HB := Lib.hid (HB.out.trans (hb4.mono HB.out.size))
  clear hb4
  have VS0 : Hid (VarF w4 w2.heap.size (Tq α β m (m + 1))) := by show VarF _ _ _; rw [HL.out]; exact (VarF.of CS.out FS.out)
  have VN0 : Hid (VarF w4 w3.heap.size (Tq α β m (m + 1))) := (VarF.of CN.out FN.out)
  have VP0 : Hid (VarF w4 w1.heap.size (fr false α β)) := (VarF.of CP.out FP.out)
  clear CS FS CN FN CP FP
  go_wp2_with fail
  go_loopg [12] (m + 1) (fun g t wx => ∃ i : Nat, i ≤ m + 1 ∧ g = i ∧ ((∃ k : Nat, i = k + 1 ∧ t = .int .i64 (k : Int)) ∨ (i = 0 ∧ t = .int .i64 (-1))) ∧ Hid (VarF wx w1.heap.size (fr false α β)) ∧ Hid (VarF wx w2.heap.size (Tq α β m (i))) ∧ Hid (VarF wx w3.heap.size (Tq α β m (i))) ∧ Hid (Below w.heap.size w wx))
  case atStart => exact ⟨m + 1, Nat.le_refl _, rfl, .inl ⟨m, rfl, rfl⟩, VP0.out, VS0.out, VN0.out, HB.out⟩
  case round =>
    obtain ⟨i, him, rfl, hcase, hvP, hvS, hvN, hbl⟩ := hrel
    clear VP0 VS0 VN0 HB
    have HB := hbl
    clear hbl
    rcases hcase with ⟨k, rfl, rfl⟩ | ⟨rfl, rfl⟩

    · obtain ⟨va, vb, hbx, h1, h2⟩ := hvP.out
      obtain ⟨pP, mP, rfl, _, _⟩ := h1.shape
      obtain ⟨qP, nP, rfl, _, _⟩ := h2.shape
      have CP := Lib.hid hbx
      have FP := Lib.hid (IsF.at_ h1 h2)
      clear hbx h1 h2
      obtain ⟨va, vb, hbx, h1, h2⟩ := hvS.out
      obtain ⟨pS, mS, rfl, _, _⟩ := h1.shape
      obtain ⟨qS, nS, rfl, _, _⟩ := h2.shape
      have CS := Lib.hid hbx
      have FS := Lib.hid (IsF.at_ h1 h2)
      clear hbx h1 h2
      obtain ⟨va, vb, hbx, h1, h2⟩ := hvN.out
      obtain ⟨pN, mN, rfl, _, _⟩ := h1.shape
      obtain ⟨qN, nN, rfl, _, _⟩ := h2.shape
      have CN := Lib.hid hbx
      have FN := Lib.hid (IsF.at_ h1 h2)
      clear hbx h1 h2
      clear hvP hvS hvN
      have hkm : k ≤ m := by omega
      have hk0 : (0 : Int) ≤ (k : Int) := Int.natCast_nonneg _
      obtain ⟨cP0, cP1, cP2⟩ := CP.out.cells3
      have ltP := CP.out.lt
      obtain ⟨cS0, cS1, cS2⟩ := CS.out.cells3
      have ltS := CS.out.lt
      obtain ⟨cN0, cN1, cN2⟩ := CN.out.cells3
      have ltN := CN.out.lt
      go_wp2_with fail
      refine (tExactly_c _ m k _ _ FP.out).mono ?_
      rw [HE.out k hkm]
      rintro e w5 ⟨v, rfl, hv, hb5⟩
      have hv : IsF _ v (Eq_ α β m k) := hv
      obtain ⟨va, vb, rfl, h1, h2⟩ := hv
      obtain ⟨px, mx, rfl, _, _⟩ := h1.shape
      obtain ⟨qx, nx, rfl, _, _⟩ := h2.shape
      have Fx := Lib.hid (IsF.at_ h1 h2)
      clear h1 h2
      clear cP0 cP1 cP2 ltP cS0 cS1 cS2 ltS cN0 cN1 cN2 ltN
      replace CP := Lib.hid (CP.out.after hb5)
      replace CS := Lib.hid (CS.out.after hb5)
      replace CN := Lib.hid (CN.out.after hb5)
      replace FP := Lib.hid (FP.out.after hb5)
      replace FS := Lib.hid (FS.out.after hb5)
      replace FN := Lib.hid (FN.out.after hb5)
      replace HB := Lib.hid (HB.out.trans (hb5.mono HB.out.size))
      clear hb5
      have d_P_x : w1.heap.size < w5.heap.size := CP.out.lt
      have d_S_x : w2.heap.size < w5.heap.size := CS.out.lt
      have d_N_x : w3.heap.size < w5.heap.size := CN.out.lt
      have g_x : w.heap.size ≤ w5.heap.size := by have := HB.out.size; omega
      obtain ⟨cP0, cP1, cP2⟩ := CP.out.cells3
      have ltP := CP.out.lt
      obtain ⟨cS0, cS1, cS2⟩ := CS.out.cells3
      have ltS := CS.out.lt
      obtain ⟨cN0, cN1, cN2⟩ := CN.out.cells3
      have ltN := CN.out.lt
      go_wp2_with fail
      refine (tTail_c _ m k _ _ (FP.out.alloc _)).mono ?_
      rw [HT.out k (by omega)]
      rintro e w6 ⟨v, rfl, hv, hb6⟩
      have hv : IsF _ v (Tq α β m (k)) := hv
      obtain ⟨va, vb, rfl, h1, h2⟩ := hv
      obtain ⟨py, my, rfl, _, _⟩ := h1.shape
      obtain ⟨qy, ny, rfl, _, _⟩ := h2.shape
      have Fy := Lib.hid (IsF.at_ h1 h2)
      clear h1 h2
      clear cP0 cP1 cP2 ltP cS0 cS1 cS2 ltS cN0 cN1 cN2 ltN
      obtain ⟨hb6, Cx⟩ := after_new hb6
      replace Cx := Lib.hid Cx
      replace CP := Lib.hid (CP.out.after hb6)
      replace CS := Lib.hid (CS.out.after hb6)
      replace CN := Lib.hid (CN.out.after hb6)
      replace FP := Lib.hid (FP.out.after hb6)
      replace FS := Lib.hid (FS.out.after hb6)
      replace FN := Lib.hid (FN.out.after hb6)
      replace Fx := Lib.hid (Fx.out.after hb6)
      replace HB := Lib.hid (HB.out.trans (hb6.mono HB.out.size))
      clear hb6
      have d_P_y : w1.heap.size < w6.heap.size := CP.out.lt
      have d_S_y : w2.heap.size < w6.heap.size := CS.out.lt
      have d_N_y : w3.heap.size < w6.heap.size := CN.out.lt
      have d_x_y : w5.heap.size < w6.heap.size := Cx.out.lt
      have g_y : w.heap.size ≤ w6.heap.size := by have := HB.out.size; omega
      obtain ⟨cP0, cP1, cP2⟩ := CP.out.cells3
      have ltP := CP.out.lt
      obtain ⟨cS0, cS1, cS2⟩ := CS.out.cells3
      have ltS := CS.out.lt
      obtain ⟨cN0, cN1, cN2⟩ := CN.out.cells3
      have ltN := CN.out.lt
      obtain ⟨cx0, cx1, cx2⟩ := Cx.out.cells3
      have ltx := Cx.out.lt
      go_wp2_with fail
      refine (Add_c _ _ _ (Tq α β m (k + 1)) (Eq_ α β m k) (FN.out.alloc _) (Fx.out.alloc _)).mono ?_
      rw [HA.out k hkm]
      rintro e w7 ⟨v, rfl, hv, hb7⟩
      have hv : IsF _ v (Tq α β m (k)) := hv
      obtain ⟨va, vb, rfl, h1, h2⟩ := hv
      obtain ⟨pz, mz, rfl, _, _⟩ := h1.shape
      obtain ⟨qz, nz, rfl, _, _⟩ := h2.shape
      have Fz := Lib.hid (IsF.at_ h1 h2)
      clear h1 h2
      clear cP0 cP1 cP2 ltP cS0 cS1 cS2 ltS cN0 cN1 cN2 ltN cx0 cx1 cx2 ltx
      obtain ⟨hb7, Cy⟩ := after_new hb7
      replace Cy := Lib.hid Cy
      replace CP := Lib.hid (CP.out.after hb7)
      replace CS := Lib.hid (CS.out.after hb7)
      replace CN := Lib.hid (CN.out.after hb7)
      replace Cx := Lib.hid (Cx.out.after hb7)
      replace FP := Lib.hid (FP.out.after hb7)
      replace FS := Lib.hid (FS.out.after hb7)
      replace FN := Lib.hid (FN.out.after hb7)
      replace Fx := Lib.hid (Fx.out.after hb7)
      replace Fy := Lib.hid (Fy.out.after hb7)
      replace HB := Lib.hid (HB.out.trans (hb7.mono HB.out.size))
      clear hb7
      have d_P_z : w1.heap.size < w7.heap.size := CP.out.lt
      have d_S_z : w2.heap.size < w7.heap.size := CS.out.lt
      have d_N_z : w3.heap.size < w7.heap.size := CN.out.lt
      have d_x_z : w5.heap.size < w7.heap.size := Cx.out.lt
      have d_y_z : w6.heap.size < w7.heap.size := Cy.out.lt
      have g_z : w.heap.size ≤ w7.heap.size := by have := HB.out.size; omega
      obtain ⟨cP0, cP1, cP2⟩ := CP.out.cells3
      have ltP := CP.out.lt
      obtain ⟨cS0, cS1, cS2⟩ := CS.out.cells3
      have ltS := CS.out.lt
      obtain ⟨cN0, cN1, cN2⟩ := CN.out.cells3
      have ltN := CN.out.lt
      obtain ⟨cx0, cx1, cx2⟩ := Cx.out.cells3
      have ltx := Cx.out.lt
      obtain ⟨cy0, cy1, cy2⟩ := Cy.out.cells3
      have lty := Cy.out.lt
      go_wp2_with fail
      refine (Cmp_c _ _ _ (Tq α β m (k)) (Tq α β m (k)) (Fy.out.alloc _) (Fz.out.alloc _)).mono ?_
      rw [HC.out k hkm]
      rintro e w8 ⟨rfl, hb8⟩
      clear cP0 cP1 cP2 ltP cS0 cS1 cS2 ltS cN0 cN1 cN2 ltN cx0 cx1 cx2 ltx cy0 cy1 cy2 lty
      obtain ⟨hb8, Cz⟩ := after_new hb8
      replace Cz := Lib.hid Cz
      replace CP := Lib.hid (CP.out.after hb8)
      replace CS := Lib.hid (CS.out.after hb8)
      replace CN := Lib.hid (CN.out.after hb8)
      replace Cx := Lib.hid (Cx.out.after hb8)
      replace Cy := Lib.hid (Cy.out.after hb8)
      replace FP := Lib.hid (FP.out.after hb8)
      replace FS := Lib.hid (FS.out.after hb8)
      replace FN := Lib.hid (FN.out.after hb8)
      replace Fx := Lib.hid (Fx.out.after hb8)
      replace Fy := Lib.hid (Fy.out.after hb8)
      replace Fz := Lib.hid (Fz.out.after hb8)
      replace HB := Lib.hid (HB.out.trans (hb8.mono HB.out.size))
      clear hb8
      obtain ⟨cP0, cP1, cP2⟩ := CP.out.cells3
      have ltP := CP.out.lt
      obtain ⟨cS0, cS1, cS2⟩ := CS.out.cells3
      have ltS := CS.out.lt
      obtain ⟨cN0, cN1, cN2⟩ := CN.out.cells3
      have ltN := CN.out.lt
      obtain ⟨cx0, cx1, cx2⟩ := Cx.out.cells3
      have ltx := Cx.out.lt
      obtain ⟨cy0, cy1, cy2⟩ := Cy.out.cells3
      have lty := Cy.out.lt
      obtain ⟨cz0, cz1, cz2⟩ := Cz.out.cells3
      have ltz := Cz.out.lt
      go_wp2_with fail
      refine (Add_c _ _ _ (Tq α β m (k + 1)) (Eq_ α β m k) FS.out Fx.out).mono ?_
      rw [HA.out k hkm]
      rintro e w9 ⟨v, rfl, hv, hb9⟩
      have hv : IsF _ v (Tq α β m (k)) := hv
      obtain ⟨va, vb, rfl, h1, h2⟩ := hv
      obtain ⟨ps, ms, rfl, _, _⟩ := h1.shape
      obtain ⟨qs, ns, rfl, _, _⟩ := h2.shape
      have Fs := Lib.hid (IsF.at_ h1 h2)
      clear h1 h2
      clear cP0 cP1 cP2 ltP cS0 cS1 cS2 ltS cN0 cN1 cN2 ltN cx0 cx1 cx2 ltx cy0 cy1 cy2 lty cz0 cz1 cz2 ltz
      replace CP := Lib.hid (CP.out.after hb9)
      replace CS := Lib.hid (CS.out.after hb9)
      replace CN := Lib.hid (CN.out.after hb9)
      replace Cx := Lib.hid (Cx.out.after hb9)
      replace Cy := Lib.hid (Cy.out.after hb9)
      replace Cz := Lib.hid (Cz.out.after hb9)
      replace FP := Lib.hid (FP.out.after hb9)
      replace FS := Lib.hid (FS.out.after hb9)
      replace FN := Lib.hid (FN.out.after hb9)
      replace Fx := Lib.hid (Fx.out.after hb9)
      replace Fy := Lib.hid (Fy.out.after hb9)
      replace Fz := Lib.hid (Fz.out.after hb9)
      replace HB := Lib.hid (HB.out.trans (hb9.mono HB.out.size))
      clear hb9
      obtain ⟨cP0, cP1, cP2⟩ := CP.out.cells3
      have ltP := CP.out.lt
      obtain ⟨cS0, cS1, cS2⟩ := CS.out.cells3
      have ltS := CS.out.lt
      have zS0 := CS.out.frozen 0
      have zS1 := CS.out.frozen 1
      have zS2 := CS.out.frozen 2
      obtain ⟨cN0, cN1, cN2⟩ := CN.out.cells3
      have ltN := CN.out.lt
      have zN0 := CN.out.frozen 0
      have zN1 := CN.out.frozen 1
      have zN2 := CN.out.frozen 2
      obtain ⟨cx0, cx1, cx2⟩ := Cx.out.cells3
      have ltx := Cx.out.lt
      obtain ⟨cy0, cy1, cy2⟩ := Cy.out.cells3
      have lty := Cy.out.lt
      obtain ⟨cz0, cz1, cz2⟩ := Cz.out.cells3
      have ltz := Cz.out.lt
      go_wp2_with fail
      clear cP0 cP1 cP2 ltP cS0 cS1 cS2 ltS zS0 zS1 zS2 cN0 cN1 cN2 ltN zN0 zN1 zN2 cx0 cx1 cx2 ltx cy0 cy1 cy2 lty cz0 cz1 cz2 ltz
      obtain ⟨wa, hw⟩ : ∃ wa, wa = ((w9.setCell ⟨w2.heap.size, 0, none⟩ (.bool (Tq α β m (k)).neg)).setCell ⟨w2.heap.size, 1, none⟩ (.slice ps (Tq α β m (k)).num.length ms)).setCell ⟨w2.heap.size, 2, none⟩ (.slice qs (Tq α β m (k)).den.length ns) := ⟨_, rfl⟩
      have hb := below_same hw
      rw [← hw]
      clear hw
      obtain ⟨KB, KS, KW, NC⟩ := after_set CS.out (fun _ h => by cases h) (fun _ h => by cases h) (fun _ h => by cases h) hb
      replace CP := Lib.hid (KB _ _ _ (by omega) CP.out)
      replace CN := Lib.hid (KB _ _ _ (by omega) CN.out)
      replace Cx := Lib.hid (KB _ _ _ (by omega) Cx.out)
      replace Cy := Lib.hid (KB _ _ _ (by omega) Cy.out)
      replace Cz := Lib.hid (KB _ _ _ (by omega) Cz.out)
      replace CS := Lib.hid NC
      replace FP := Lib.hid (FP.out.via KS)
      replace FS := Lib.hid (FS.out.via KS)
      replace FN := Lib.hid (FN.out.via KS)
      replace Fx := Lib.hid (Fx.out.via KS)
      replace Fy := Lib.hid (Fy.out.via KS)
      replace Fz := Lib.hid (Fz.out.via KS)
      replace Fs := Lib.hid (Fs.out.via KS)
      replace HB := Lib.hid (KW _ _ HB.out (by omega))
      clear KB KS KW NC hb
      obtain ⟨wb, hw⟩ : ∃ wb, wb = ((wa.setCell ⟨w3.heap.size, 0, none⟩ (.bool (Tq α β m (k)).neg)).setCell ⟨w3.heap.size, 1, none⟩ (.slice py (Tq α β m (k)).num.length my)).setCell ⟨w3.heap.size, 2, none⟩ (.slice qy (Tq α β m (k)).den.length ny) := ⟨_, rfl⟩
      have hb := below_same hw
      rw [← hw]
      clear hw
      obtain ⟨KB, KS, KW, NC⟩ := after_set CN.out (fun _ h => by cases h) (fun _ h => by cases h) (fun _ h => by cases h) hb
      replace CP := Lib.hid (KB _ _ _ (by omega) CP.out)
      replace CS := Lib.hid (KB _ _ _ (by omega) CS.out)
      replace Cx := Lib.hid (KB _ _ _ (by omega) Cx.out)
      replace Cy := Lib.hid (KB _ _ _ (by omega) Cy.out)
      replace Cz := Lib.hid (KB _ _ _ (by omega) Cz.out)
      replace CN := Lib.hid NC
      replace FP := Lib.hid (FP.out.via KS)
      replace FS := Lib.hid (FS.out.via KS)
      replace FN := Lib.hid (FN.out.via KS)
      replace Fx := Lib.hid (Fx.out.via KS)
      replace Fy := Lib.hid (Fy.out.via KS)
      replace Fz := Lib.hid (Fz.out.via KS)
      replace Fs := Lib.hid (Fs.out.via KS)
      replace HB := Lib.hid (KW _ _ HB.out (by omega))
      clear KB KS KW NC hb
      go_roundg k
      case measure => omega
      case rel =>
        refine ⟨k, by omega, rfl, ?_, (VarF.of CP.out FP.out), (VarF.of CS.out Fs.out), (VarF.of CN.out Fy.out), HB.out⟩
        rcases k with _ | k
        · exact .inr ⟨rfl, rfl⟩
        · exact .inl ⟨k, rfl, by go_num⟩
    · obtain ⟨va, vb, hbx, h1, h2⟩ := hvS.out
      obtain ⟨pS, mS, rfl, _, _⟩ := h1.shape
      obtain ⟨qS, nS, rfl, _, _⟩ := h2.shape
      have CS := Lib.hid hbx
      have FS := Lib.hid (IsF.at_ h1 h2)
      clear hbx h1 h2
      obtain ⟨va, vb, hbx, h1, h2⟩ := hvN.out
      obtain ⟨pN, mN, rfl, _, _⟩ := h1.shape
      obtain ⟨qN, nN, rfl, _, _⟩ := h2.shape
      have CN := Lib.hid hbx
      have FN := Lib.hid (IsF.at_ h1 h2)
      clear hbx h1 h2
      clear hvP hvS hvN
      obtain ⟨cS0, cS1, cS2⟩ := CS.out.cells3
      have ltS := CS.out.lt
      obtain ⟨cN0, cN1, cN2⟩ := CN.out.cells3
      have ltN := CN.out.lt
      go_wp2_with fail
      refine (is_c _ _ (Tq α β m (0)) 0 1 1 FS.out (by omega) (by omega) (by omega) (by omega)).mono ?_
      intro e w10 hr
      obtain ⟨rfl, hb10⟩ := hr.yes ⟨rfl, HZ.out.trans w_11.symm⟩
      clear hr
      clear cS0 cS1 cS2 ltS cN0 cN1 cN2 ltN
      replace CS := Lib.hid (CS.out.after hb10)
      replace CN := Lib.hid (CN.out.after hb10)
      replace FS := Lib.hid (FS.out.after hb10)
      replace FN := Lib.hid (FN.out.after hb10)
      replace HB := Lib.hid (HB.out.trans (hb10.mono HB.out.size))
      clear hb10
      obtain ⟨cS0, cS1, cS2⟩ := CS.out.cells3
      have ltS := CS.out.lt
      obtain ⟨cN0, cN1, cN2⟩ := CN.out.cells3
      have ltN := CN.out.lt
      go_wp2_with fail
      refine (is_c _ _ (Tq α β m (0)) 0 1 1 FN.out (by omega) (by omega) (by omega) (by omega)).mono ?_
      intro e w11 hr
      obtain ⟨rfl, hb11⟩ := hr.yes ⟨rfl, HZ.out.trans w_11.symm⟩
      clear hr
      clear cS0 cS1 cS2 ltS cN0 cN1 cN2 ltN
      replace CS := Lib.hid (CS.out.after hb11)
      replace CN := Lib.hid (CN.out.after hb11)
      replace FS := Lib.hid (FS.out.after hb11)
      replace FN := Lib.hid (FN.out.after hb11)
      replace HB := Lib.hid (HB.out.trans (hb11.mono HB.out.size))
      clear hb11
      obtain ⟨cS0, cS1, cS2⟩ := CS.out.cells3
      have ltS := CS.out.lt
      obtain ⟨cN0, cN1, cN2⟩ := CN.out.cells3
      have ltN := CN.out.lt
      go_wp2_with fail
      refine (works_c _).mono ?_
      rintro e w12 ⟨rfl, hb12⟩
      clear cS0 cS1 cS2 ltS cN0 cN1 cN2 ltN
      replace CS := Lib.hid (CS.out.after hb12)
      replace CN := Lib.hid (CN.out.after hb12)
      replace FS := Lib.hid (FS.out.after hb12)
      replace FN := Lib.hid (FN.out.after hb12)
      replace HB := Lib.hid (HB.out.trans (hb12.mono HB.out.size))
      clear hb12
      go_wp2_with fail
      go_ret
      exact ⟨rfl, HB.out⟩
end Go.Proofs.Ytppehiajocgiiaa
