/- Plain facts for the statements on tails: values at small numbers.
   The examples that every statement on tails looks at come out: the walk of works(). -/
import Derived.Test.YtppehiajocgiiaaK20
set_option linter.unusedVariables false
namespace Go.Proofs.Ytppehiajocgiiaa
open Go.RowKit

theorem below_dn {w w' : World} (h : ∃ n, w' = w.drewN n) : Below w.heap.size w w' := by
  obtain ⟨n, rfl⟩ := h; exact below_drewN _ _ _
theorem below_same {w w' : World} (h : w' = w) : Below w.heap.size w w' := h ▸ Below.refl _ _
theorem IsF.set3 {w : World} {v : Value} {x : F} {R : Nat} {x0 x1 x2 : Value} {t : TypeId} (h : IsF w v x) (hR : Box w R #[x0, x1, x2] t) (h0 : ∀ x, x0 ≠ .int .u32 x) (h1 : ∀ x, x1 ≠ .int .u32 x) (h2 : ∀ x, x2 ≠ .int .u32 x) (y0 y1 y2 : Value) :
    IsF (((w.setCell ⟨R, 0, none⟩ y0).setCell ⟨R, 1, none⟩ y1).setCell ⟨R, 2, none⟩ y2) v x := by
  obtain ⟨c0, c1, c2⟩ := hR.cells3
  refine ((h.setN c0 h0 y0).setN (u0 := x1) ?_ h1 y1).setN (u0 := x2) ?_ h2 y2
  · rw [World.cell?_setCell_other _ _ _ _ (fun e => by injection e with e1 e2; cases e2)]; exact c1
  · rw [World.cell?_setCell_other _ _ _ _ (fun e => by injection e with e1 e2; cases e2), World.cell?_setCell_other _ _ _ _ (fun e => by injection e with e1 e2; cases e2)]; exact c2
theorem IsF.via {w w' : World} {v : Value} {x : F} (h : IsF w v x) (k : ∀ v l, Sl w v l → Sl w' v l) : IsF w' v x := by
  obtain ⟨va, vb, e, h1, h2⟩ := h
  exact ⟨va, vb, e, k _ _ h1, k _ _ h2⟩
theorem Sl.via {w w' : World} {v : Value} {l : List Nat} (h : Sl w v l) (k : ∀ v l, Sl w v l → Sl w' v l) : Sl w' v l := k _ _ h
theorem after_set {wi w2 : World} {R : Nat} {x0 x1 x2 y0 y1 y2 : Value} {t : TypeId} (hR : Box wi R #[x0, x1, x2] t) (h0 : ∀ x, x0 ≠ .int .u32 x) (h1 : ∀ x, x1 ≠ .int .u32 x) (h2 : ∀ x, x2 ≠ .int .u32 x)
    (hb : Below (((wi.setCell ⟨R, 0, none⟩ y0).setCell ⟨R, 1, none⟩ y1).setCell ⟨R, 2, none⟩ y2).heap.size (((wi.setCell ⟨R, 0, none⟩ y0).setCell ⟨R, 1, none⟩ y1).setCell ⟨R, 2, none⟩ y2) w2) :
    (∀ S cs u, S ≠ R → Box wi S cs u → Box w2 S cs u) ∧ (∀ v l, Sl wi v l → Sl w2 v l) ∧ (∀ B w, Below B w wi → B ≤ R → Below B w w2) ∧ Box w2 R #[y0, y1, y2] t := by
  refine ⟨fun S cs u hne hS => (far_box hS hne).after hb, fun v l hl => ?_, fun B w hw hB => (((hw.setCell (p := ⟨R, 0, none⟩) hB _).setCell (p := ⟨R, 1, none⟩) hB _).setCell (p := ⟨R, 2, none⟩) hB _).trans (hb.mono ?_), (end_box hR).after hb⟩
  · obtain ⟨c0, c1, c2⟩ := hR.cells3
    refine (((hl.setN c0 h0 y0).setN (u0 := x1) ?_ h1 y1).setN (u0 := x2) ?_ h2 y2).after hb
    · rw [World.cell?_setCell_other _ _ _ _ (fun e => by injection e with e1 e2; cases e2)]; exact c1
    · rw [World.cell?_setCell_other _ _ _ _ (fun e => by injection e with e1 e2; cases e2), World.cell?_setCell_other _ _ _ _ (fun e => by injection e with e1 e2; cases e2)]; exact c2
  · exact Nat.le_trans hB (Nat.le_of_lt (end_box hR).lt)
theorem small_ok {n d : Nat} (hn : n < 4294967296) (hd : d < 4294967296) (h0 : 0 < d) (hg : Nat.gcd n d = 1) : Ok false n d :=
  ⟨Nat.le_trans (limbs_len_lt (k := 1) (by omega)) (by omega), Nat.le_trans (limbs_len_lt (k := 1) (by omega)) (by omega), h0, hg, fun _ => rfl⟩
theorem made_red {g a b : Nat} (hg : 0 < g) (h : Ok false a b) : made false (g * a) (g * b) = (fr false a b, 0) := by
  unfold made
  rw [Nat.gcd_mul_left, h.gcd, Nat.mul_one, Nat.mul_div_cancel_left _ hg, Nat.mul_div_cancel_left _ hg, if_neg]
  · simp
  · have := h.n32; have := h.d32; omega
theorem made_ok {a b : Nat} (h : Ok false a b) : made false a b = (fr false a b, 0) := by
  have := made_red (g := 1) (by omega) h
  rwa [Nat.one_mul, Nat.one_mul] at this
theorem ofF_nat (n d : Nat) (hd : 0 < d) : ofF (n : Int) (d : Int) = made false n d := by
  unfold ofF
  rw [if_neg (by omega)]
  have h1 : decide ((n : Int) < 0) = false := by simp
  have h2 : decide ((d : Int) < 0) = false := by simp
  rw [h1, h2]
  simp
theorem ofF_ok {a b : Nat} {z y : Int} (hz : z = a) (hy : y = b) (h : Ok false a b) : ofF z y = (fr false a b, 0) := by
  subst hz; subst hy
  rw [ofF_nat _ _ h.pos, made_ok h]
theorem fracE_ok {a b : Nat} (h : Ok false a b) (hab : a ≤ b) : fracE (fr false a b) = 0 := by
  rw [fracE_yes (validF_fr.2 h)]
  rw [if_neg]
  show ¬ (false = true ∨ val (limbs b) < val (limbs a))
  rw [val_limbs, val_limbs]
  simp; omega
theorem rateE_ok {a b : Nat} (h : Ok false a b) (hab : a ≤ b) (hb : b ≤ 1000) : rateE (fr false a b) = 0 := by
  rw [rateE_good (fracE_ok h hab), if_neg]
  show ¬ 1000 < val (limbs b)
  rw [val_limbs]; omega
theorem exactlyF_val {n k a b : Nat} (h : Ok false a b) (hab : a ≤ b) (hb : b ≤ 1000) (hn : n ≤ 64) (hk : k ≤ n) : exactlyF (n : Int) (k : Int) (fr false a b) = made false (ex a (b - a) n k) (b ^ n) := by
  unfold exactlyF
  have ht : trialsB (n : Int) (k : Int) (n : Int) = true := trialsB_iff.2 ⟨by omega, by omega, by omega, by omega⟩
  rw [ht, if_pos (checkE_true (rateE_ok h hab hb))]
  show made false (ex (val (limbs a)) (val (limbs b) - val (limbs a)) _ _) (val (limbs b) ^ _) = _
  rw [val_limbs, val_limbs]; simp
theorem tailF_val {n k a b : Nat} (h : Ok false a b) (hab : a ≤ b) (hb : b ≤ 1000) (hn : n ≤ 64) (hk : k ≤ n + 1) : tailF (n : Int) (k : Int) (fr false a b) = made false (tl a (b - a) n k) (b ^ n) := by
  unfold tailF
  have hw : IntKind.i64.wrap ((n : Int) + 1) = (n : Int) + 1 := wrap_in (by omega) (by omega)
  have ht : trialsB (n : Int) (k : Int) ((n : Int) + 1) = true := trialsB_iff.2 ⟨by omega, by omega, by omega, by omega⟩
  rw [hw, ht, if_pos (checkE_true (rateE_ok h hab hb))]
  show made false (tl (val (limbs a)) (val (limbs b) - val (limbs a)) _ _) (val (limbs b) ^ _) = _
  rw [val_limbs, val_limbs]; simp
theorem chooseF_val {n k : Nat} (hn : n ≤ 64) (hk : k ≤ n) : chooseF (n : Int) (k : Int) = (limbs (ch n k), 0) := by
  unfold chooseF
  have ht : trialsB (n : Int) (k : Int) (n : Int) = true := trialsB_iff.2 ⟨by omega, by omega, by omega, by omega⟩
  rw [if_pos ht]; simp
theorem critF_val {n a b x y : Nat} {r : Int × Int} (h : Ok false a b) (hab : a ≤ b) (hb : b ≤ 1000) (hn : n ≤ 64) (g : Ok false x y) (hxy : x ≤ y) (hr : critF (n : Int) (fr false a b) (fr false x y) r) : ∃ m : Nat, r = ((m : Int), 0) ∧ CritR n a (b - a) x y m := by
  unfold critF at hr
  have ht : trialsB (n : Int) 0 0 = true := trialsB_iff.2 ⟨by omega, by omega, by omega, by omega⟩
  rw [ht, if_pos ⟨checkE_true (rateE_ok h hab hb), fracE_ok g hxy⟩] at hr
  obtain ⟨m, hm, hc⟩ := hr
  refine ⟨m, hm, ?_⟩
  change CritR _ (val (limbs a)) (val (limbs b) - val (limbs a)) (val (limbs x)) (val (limbs y)) m at hc
  rw [val_limbs, val_limbs, val_limbs, val_limbs] at hc
  simpa using hc
theorem upperF_val {n k x y den : Nat} {r : Int × Int} (hn : n ≤ 64) (hk : k ≤ n + 1) (g : Ok false x y) (hxy : x ≤ y) (hd0 : 1 ≤ den) (hd1 : den ≤ 1000) (hr : upperF (n : Int) (k : Int) (fr false x y) (den : Int) r) : ∃ m : Nat, UpR n k x y den m ∧ r = if (den : Int) < (m : Int) then (0, 7) else ((m : Int), 0) := by
  unfold upperF at hr
  have hw : IntKind.i64.wrap ((n : Int) + 1) = (n : Int) + 1 := wrap_in (by omega) (by omega)
  have ht : trialsB (n : Int) (k : Int) ((n : Int) + 1) = true := trialsB_iff.2 ⟨by omega, by omega, by omega, by omega⟩
  rw [if_pos (fracE_ok g hxy), hw, ht, if_pos ⟨rfl, by omega, by omega⟩] at hr
  obtain ⟨m, hm, hc⟩ := hr
  refine ⟨m, ?_, hc⟩
  change UpR _ _ (val (limbs x)) (val (limbs y)) _ m at hm
  rw [val_limbs, val_limbs] at hm
  simpa using hm

theorem ok13 : Ok false 1 3 := small_ok (by omega) (by omega) (by omega) (by decide)
theorem ok110 : Ok false 1 10 := small_ok (by omega) (by omega) (by omega) (by decide)
theorem ok12 : Ok false 1 2 := small_ok (by omega) (by omega) (by omega) (by decide)
theorem tl_41 : tl 1 2 4 1 = 65 := by simp [tl_le, tl_gt, ex, ch]
theorem w_third : ofF 1 3 = (fr false 1 3, 0) := ofF_ok (a := 1) (b := 3) rfl rfl ok13
theorem w_tenth : ofF 1 10 = (fr false 1 10, 0) := ofF_ok (a := 1) (b := 10) rfl rfl ok110
theorem w_half : ofF 1 2 = (fr false 1 2, 0) := ofF_ok (a := 1) (b := 2) rfl rfl ok12
theorem w_choose : chooseF 5 2 = ([10], 0) := by
  have := chooseF_val (n := 5) (k := 2) (by omega) (by omega)
  rw [show ch 5 2 = 10 by decide, limbs_small (by omega) (by omega)] at this
  exact this
theorem w_exactly : exactlyF 4 1 (fr false 1 3) = (fr false 32 81, 0) := by
  have := exactlyF_val (n := 4) (k := 1) ok13 (by omega) (by omega) (by omega) (by omega)
  rw [show ex 1 (3 - 1) 4 1 = 32 by decide, show 3 ^ 4 = 81 by decide, made_ok (small_ok (by omega) (by omega) (by omega) (by decide))] at this
  exact this
theorem w_tail : tailF 4 1 (fr false 1 3) = (fr false 65 81, 0) := by
  have := tailF_val (n := 4) (k := 1) ok13 (by omega) (by omega) (by omega) (by omega)
  rw [show 3 - 1 = 2 by decide, tl_41, show 3 ^ 4 = 81 by decide, made_ok (small_ok (by omega) (by omega) (by omega) (by decide))] at this
  exact this
theorem w_32 : (ofF 32 81).1 = fr false 32 81 := congrArg Prod.fst (ofF_ok (a := 32) (b := 81) rfl rfl (small_ok (by omega) (by omega) (by omega) (by decide)))
theorem w_65 : (ofF 65 81).1 = fr false 65 81 := congrArg Prod.fst (ofF_ok (a := 65) (b := 81) rfl rfl (small_ok (by omega) (by omega) (by omega) (by decide)))
theorem w_crit {r : Int × Int} (h : critF 4 (fr false 1 3) (fr false 1 10) r) : r = (4, 0) := by
  obtain ⟨m, rfl, hm⟩ := critF_val (n := 4) ok13 (by omega) (by omega) (by omega) ok110 (by omega) h
  have h4 : CritR 4 1 (3 - 1) 1 10 4 := .inl ⟨3, by omega, by simp [Abv, tl_le, tl_gt, ex, ch], fun j h1 h2 => by
    obtain rfl : j = 4 := by omega
    simp [Abv, tl_le, tl_gt, ex, ch], rfl⟩
  rw [critR_uniq hm h4]; rfl
theorem w_upper {r : Int × Int} (h : upperF 4 1 (fr false 1 2) 10 r) : r = (2, 0) := by
  obtain ⟨m, hm, rfl⟩ := upperF_val (n := 4) (k := 1) (den := 10) (by omega) (by omega) ok12 (by omega) (by omega) (by omega) h
  have h2 : UpR 4 1 1 2 10 2 := ⟨by omega, .inr (by simp [UpB, tl_le, tl_gt, ex, ch]), .inr (by simp [UpB, tl_le, tl_gt, ex, ch])⟩
  rw [upR_uniq hm h2]; rfl
end Go.Proofs.Ytppehiajocgiiaa

namespace Go.Proofs.Ytppehiajocgiiaa
open Go.RowKit

theorem w_third1 : (ofF 1 3).1 = fr false 1 3 := congrArg Prod.fst w_third
theorem w_tenth1 : (ofF 1 10).1 = fr false 1 10 := congrArg Prod.fst w_tenth
theorem w_half1 : (ofF 1 2).1 = fr false 1 2 := congrArg Prod.fst w_half
theorem Sl.one_cell {w : World} {v : Value} {x : Nat} (h : Sl w v [x]) : ∃ b off cap, v = .slice (some ⟨b, off, none⟩) 1 cap ∧ 1 ≤ cap ∧ cap ≤ 9223372036854775807 ∧ w.cell? ⟨b, off, none⟩ = some (.int .u32 ((x : Nat) : Int)) ∧ b < w.heap.size := by
  obtain ⟨_, a, cap, rfl, h2, h3, _, h6⟩ := h
  obtain ⟨b, off, rfl, hb, hc⟩ := h6 (by simp)
  have := hc 0 (by simp)
  rw [lim_cons_zero] at this
  exact ⟨b, off, cap, rfl, h2, h3, this, hb⟩

set_option maxRecDepth 100000 in
set_option maxHeartbeats 4000000 in
theorem works_c (w : World) : Calls Try.prog 20 #[] w fun e w' => e = .returned (.bool true) ∧ Below w.heap.size w w' := by
  have HB : Hid (Below w.heap.size w w) := Below.refl _ _
  go_enter Try.func20, Try.ntmps20
  go_wp2_with fail
  refine (of_c _ 1 3 (by omega) (by omega) (by omega) (by omega)).mono ?_
  rw [w_third1]
  rintro e w1 ⟨v, rfl, hv, hb1⟩
  have hv : IsF _ v (fr false 1 3) := hv
  obtain ⟨va, vb, rfl, h1, h2⟩ := hv
  obtain ⟨pT, mT, rfl, _, _⟩ := h1.shape
  obtain ⟨qT, nT, rfl, _, _⟩ := h2.shape
  have FT := Lib.hid (IsF.at_ h1 h2)
  clear h1 h2
  replace HB := Lib.hid (HB.out.trans (hb1.mono HB.out.size))
  clear hb1
  have g_T : w.heap.size ≤ w1.heap.size := by have := HB.out.size; omega
  go_wp2_with fail
  refine (tChoose_c _ 5 2).mono ?_
  rw [w_choose]
  rintro e w2 ⟨v, rfl, hv, hb2⟩
  have hv : Sl _ v ([10]) := hv
  obtain ⟨pc, qc, rfl, _, _⟩ := hv.shape
  have Fc := Lib.hid hv
  clear hv
  obtain ⟨hb2, CT⟩ := after_new hb2
  replace CT := Lib.hid CT
  replace FT := Lib.hid (FT.out.after hb2)
  replace HB := Lib.hid (HB.out.trans (hb2.mono HB.out.size))
  clear hb2
  obtain ⟨cb, co, cc, e1, hc1, hc2, kc, hcl⟩ := Fc.out.one_cell
  obtain ⟨rfl, _, rfl⟩ : pc = some ⟨cb, co, none⟩ ∧ True ∧ qc = cc := by injection e1 with e1 e2 e3; exact ⟨e1, trivial, e3⟩
  have Kc := Lib.hid kc
  clear kc e1 Fc
  obtain ⟨cT0, cT1, cT2⟩ := CT.out.cells3
  have ltT := CT.out.lt
  go_wp2_with fail
  refine (tExactly_c _ 4 1 _ _ FT.out).mono ?_
  rw [w_exactly]
  rintro e w3 ⟨v, rfl, hv, hb3⟩
  have hv : IsF _ v (fr false 32 81) := hv
  obtain ⟨va, vb, rfl, h1, h2⟩ := hv
  obtain ⟨px, mx, rfl, _, _⟩ := h1.shape
  obtain ⟨qx, nx, rfl, _, _⟩ := h2.shape
  have Fx := Lib.hid (IsF.at_ h1 h2)
  clear h1 h2
  clear cT0 cT1 cT2 ltT
  replace CT := Lib.hid (CT.out.after hb3)
  replace FT := Lib.hid (FT.out.after hb3)
  replace Kc := Lib.hid (keep_cell hb3 Kc.out)
  replace HB := Lib.hid (HB.out.trans (hb3.mono HB.out.size))
  clear hb3
  have d_T_x : w1.heap.size < w3.heap.size := CT.out.lt
  have g_x : w.heap.size ≤ w3.heap.size := by have := HB.out.size; omega
  obtain ⟨cT0, cT1, cT2⟩ := CT.out.cells3
  have ltT := CT.out.lt
  go_wp2_with fail
  refine (tTail_c _ 4 1 _ _ (FT.out.alloc _)).mono ?_
  rw [w_tail]
  rintro e w4 ⟨v, rfl, hv, hb4⟩
  have hv : IsF _ v (fr false 65 81) := hv
  obtain ⟨va, vb, rfl, h1, h2⟩ := hv
  obtain ⟨py, my, rfl, _, _⟩ := h1.shape
  obtain ⟨qy, ny, rfl, _, _⟩ := h2.shape
  have Fy := Lib.hid (IsF.at_ h1 h2)
  clear h1 h2
  clear cT0 cT1 cT2 ltT
  obtain ⟨hb4, Cx⟩ := after_new hb4
  replace Cx := Lib.hid Cx
  replace CT := Lib.hid (CT.out.after hb4)
  replace FT := Lib.hid (FT.out.after hb4)
  replace Fx := Lib.hid (Fx.out.after hb4)
  replace Kc := Lib.hid (keep_cell hb4 Kc.out)
  replace HB := Lib.hid (HB.out.trans (hb4.mono HB.out.size))
  clear hb4
  have d_T_y : w1.heap.size < w4.heap.size := CT.out.lt
  have d_x_y : w3.heap.size < w4.heap.size := Cx.out.lt
  have g_y : w.heap.size ≤ w4.heap.size := by have := HB.out.size; omega
  obtain ⟨cT0, cT1, cT2⟩ := CT.out.cells3
  have ltT := CT.out.lt
  obtain ⟨cx0, cx1, cx2⟩ := Cx.out.cells3
  have ltx := Cx.out.lt
  have kc := Kc.out
  have lc := World.block_lt_of_cell? _ _ Kc.out
  go_wp2_with fail
  refine (is_c _ _ (fr false 32 81) 0 32 81 (Fx.out.alloc _) (by omega) (by omega) (by omega) (by omega)).mono ?_
  intro e w5 hr
  obtain ⟨rfl, hb5⟩ := hr.yes ⟨rfl, w_32.symm⟩
  clear hr
  clear kc lc
  clear cT0 cT1 cT2 ltT cx0 cx1 cx2 ltx
  obtain ⟨hb5, Cy⟩ := after_new hb5
  replace Cy := Lib.hid Cy
  replace CT := Lib.hid (CT.out.after hb5)
  replace Cx := Lib.hid (Cx.out.after hb5)
  replace FT := Lib.hid (FT.out.after hb5)
  replace Fx := Lib.hid (Fx.out.after hb5)
  replace Fy := Lib.hid (Fy.out.after hb5)
  replace Kc := Lib.hid (keep_cell hb5 Kc.out)
  replace HB := Lib.hid (HB.out.trans (hb5.mono HB.out.size))
  clear hb5
  obtain ⟨cT0, cT1, cT2⟩ := CT.out.cells3
  have ltT := CT.out.lt
  obtain ⟨cx0, cx1, cx2⟩ := Cx.out.cells3
  have ltx := Cx.out.lt
  obtain ⟨cy0, cy1, cy2⟩ := Cy.out.cells3
  have lty := Cy.out.lt
  go_wp2_with fail
  refine (is_c _ _ (fr false 65 81) 0 65 81 Fy.out (by omega) (by omega) (by omega) (by omega)).mono ?_
  intro e w6 hr
  obtain ⟨rfl, hb6⟩ := hr.yes ⟨rfl, w_65.symm⟩
  clear hr
  clear cT0 cT1 cT2 ltT cx0 cx1 cx2 ltx cy0 cy1 cy2 lty
  replace CT := Lib.hid (CT.out.after hb6)
  replace Cx := Lib.hid (Cx.out.after hb6)
  replace Cy := Lib.hid (Cy.out.after hb6)
  replace FT := Lib.hid (FT.out.after hb6)
  replace Fx := Lib.hid (Fx.out.after hb6)
  replace Fy := Lib.hid (Fy.out.after hb6)
  replace Kc := Lib.hid (keep_cell hb6 Kc.out)
  replace HB := Lib.hid (HB.out.trans (hb6.mono HB.out.size))
  clear hb6
  clear Fx Cx Fy Cy
  have mkS : Hid (∀ w', Below w6.heap.size w6 w' → (w'.cell? ⟨w1.heap.size, 0, none⟩ = some (.bool (fr false 1 3).neg) ∧ w'.cell? ⟨w1.heap.size, 1, none⟩ = some (.slice pT (fr false 1 3).num.length mT) ∧ w'.cell? ⟨w1.heap.size, 2, none⟩ = some (.slice qT (fr false 1 3).den.length nT))) := fun w' hb => (CT.out.after hb).cells3
  go_upto_region 7 with fail
  go_region_held3 (fun w' => (w'.cell? ⟨w1.heap.size, 0, none⟩ = some (.bool (fr false 1 3).neg) ∧ w'.cell? ⟨w1.heap.size, 1, none⟩ = some (.slice pT (fr false 1 3).num.length mT) ∧ w'.cell? ⟨w1.heap.size, 2, none⟩ = some (.slice qT (fr false 1 3).den.length nT)))
    (first | (refine mkS.out _ ?_; (repeat (first | with_reducible exact hk2 | with_reducible exact hk1 | with_reducible exact Below.refl _ _ | with_reducible refine below_dr ?_)); done))
    (first
     | (go_at_call 26; refine (of_c _ 1 10 (by omega) (by omega) (by omega) (by omega)).mono ?_; rw [w_tenth1]; rintro e wa ⟨v, rfl, hv, hb⟩; have hk1 := below_of_drew hb; clear hb)
     | (go_at_call 21; refine (tCritical_c _ 4 _ _ (fr false 1 3) (fr false 1 10) (FT.out.after hk1) hv).mono ?_; rintro e wb ⟨r, rfl, hr, hb⟩; obtain rfl := w_crit hr; have hk2 := hk1.trans (hb.mono hk1.size); clear hb))
  clear hk1 hv hr mkS
  replace CT := Lib.hid (CT.out.after hk2)
  replace FT := Lib.hid (FT.out.after hk2)
  replace Kc := Lib.hid (keep_cell hk2 Kc.out)
  replace HB := Lib.hid (HB.out.trans (hk2.mono HB.out.size))
  clear hk2
  obtain ⟨cT0, cT1, cT2⟩ := CT.out.cells3
  have ltT := CT.out.lt
  go_wp2_with fail
  refine (of_c _ 1 2 (by omega) (by omega) (by omega) (by omega)).mono ?_
  rw [w_half1]
  rintro e w7 ⟨v, rfl, hv, hb7⟩
  have hv : IsF _ v (fr false 1 2) := hv
  obtain ⟨va, vb, rfl, h1, h2⟩ := hv
  obtain ⟨pH, mH, rfl, _, _⟩ := h1.shape
  obtain ⟨qH, nH, rfl, _, _⟩ := h2.shape
  have FH := Lib.hid (IsF.at_ h1 h2)
  clear h1 h2
  clear cT0 cT1 cT2 ltT
  replace CT := Lib.hid (CT.out.after hb7)
  replace FT := Lib.hid (FT.out.after hb7)
  replace Kc := Lib.hid (keep_cell hb7 Kc.out)
  replace HB := Lib.hid (HB.out.trans (hb7.mono HB.out.size))
  clear hb7
  obtain ⟨cT0, cT1, cT2⟩ := CT.out.cells3
  have ltT := CT.out.lt
  go_wp2_with fail
  refine (tUpper_c _ 4 1 10 _ _ FH.out).mono ?_
  rintro e w8 ⟨rr, rfl, hrr, hb8⟩
  clear cT0 cT1 cT2 ltT
  replace CT := Lib.hid (CT.out.after hb8)
  replace FT := Lib.hid (FT.out.after hb8)
  replace FH := Lib.hid (FH.out.after hb8)
  replace Kc := Lib.hid (keep_cell hb8 Kc.out)
  replace HB := Lib.hid (HB.out.trans (hb8.mono HB.out.size))
  clear hb8
  obtain rfl := w_upper hrr
  clear hrr
  go_wp2_with fail
  go_ret
  exact ⟨rfl, HB.out⟩
end Go.Proofs.Ytppehiajocgiiaa
