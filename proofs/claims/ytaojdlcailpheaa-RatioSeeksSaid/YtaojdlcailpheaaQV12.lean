/- Walks of the reference: sum, Add, Mul. -/
import Derived.Test.YtaojdlcailpheaaQV11
set_option linter.unusedVariables false
namespace Go.Proofs.Ytaojdlcailpheaa
open Go.RowKit

/-- What the reference's sum returns. -/
noncomputable def sumR (xn : Bool) (X : Nat) (yn : Bool) (Y D : Nat) : F × Int := if xn = yn then made xn (X + Y) D else if X < Y then made yn (Y - X) D else made xn (X - Y) D
theorem sumN_R (n1 : Bool) (a b : Nat) (n2 : Bool) (c d : Nat) : sumN n1 a b n2 c d = sumR n1 (a * d) n2 (c * b) (b * d) := rfl

set_option maxRecDepth 100000 in
set_option maxHeartbeats 2000000 in
theorem rsum_c (w : World) (va vb vd : Value) (n1 n2 : Bool) (X Y D : Nat) (h : Sl w va (limbs X)) (k : Sl w vb (limbs Y)) (l : Sl w vd (limbs D)) (hD : 0 < D)
    (lx : (limbs X).length ≤ 300000) (ly : (limbs Y).length ≤ 300000) (ld : (limbs D).length ≤ 300000) :
    Calls Try.prog 69 #[.bool n1, va, .bool n2, vb, vd] w (RetF w (sumR n1 X n2 Y D)) := by
  have br := Box.new w #[.bool false, .slice none 0 0, .slice none 0 0] 25
  have hb0 : Below w.heap.size w (w.alloc (.cells #[.bool false, .slice none 0 0, .slice none 0 0] 25)) := held_alloc (Below.refl _ w)
  have H1 := Lib.hid (h.after hb0)
  have H2 := Lib.hid (k.after hb0)
  have H3 := Lib.hid (l.after hb0)
  have BR := Lib.hid br
  have HB0 := Lib.hid hb0
  have LS : Hid ((limbs (X + Y)).length ≤ 400000) := Nat.le_trans (limbs_add_len X Y) (by omega)
  have L1 : Hid ((limbs (X - Y)).length ≤ 400000) := Nat.le_trans (limbs_len_mono (Nat.sub_le X Y)) (by omega)
  have L2 : Hid ((limbs (Y - X)).length ≤ 400000) := Nat.le_trans (limbs_len_mono (Nat.sub_le Y X)) (by omega)
  clear br hb0 h k l
  by_cases hn : n1 = n2
  · subst hn
    have hsp : Hid (sumR n1 X n1 Y D = made n1 (X + Y) D) := by show _ = _; unfold sumR; rw [if_pos rfl]
    go_enter Try.func69, Try.ntmps69
    go_wp2_with fail
    refine (Sum_n _ _ _ X Y H1.out H2.out (by omega) (by omega)).mono ?_
    rintro e w3 ⟨v3, rfl, hv3, hb3⟩
    have HV3 := Lib.hid hv3
    have H33 := Lib.hid (H3.out.after hb3)
    have BRX := Lib.hid (BR.out.after hb3)
    have HBX := Lib.hid (HB0.out.trans (hb3.mono HB0.out.size))
    clear hv3 hb3 H1 H2 H3 BR HB0
    go_wp2_with fail
    refine (Made_c w3 v3 vd (X + Y) D n1 HV3.out H33.out hD LS.out (by omega)).mono ?_
    rw [← hsp.out]
    rintro e w4 ⟨v4, rfl, hv4, hb4⟩
    obtain ⟨va4, vb4, rfl, h41, h42⟩ := hv4
    have hbb := HBX.out.trans (hb4.mono HBX.out.size)
    have bx4 := BRX.out.after hb4
    obtain ⟨p, cp, rfl, _, _⟩ := h41.shape
    obtain ⟨q, cq, rfl, _, _⟩ := h42.shape
    obtain ⟨r0, r1, r2⟩ := bx4.cells3
    have f0 := bx4.frozen 0
    have f1 := bx4.frozen 1
    have f2 := bx4.frozen 2
    generalize hof2 : sumR n1 X n1 Y D = o at *
    obtain ⟨⟨neg, A, B⟩, er⟩ := o
    have HVA := Lib.hid h41
    have HVB := Lib.hid h42
    have BX4 := Lib.hid bx4
    have BW4 := Lib.hid hbb
    clear h41 h42 bx4 hb4 hof2 hbb hsp
    simp only at HVA HVB
    go_wp2_with fail
    refine bodyPost_ret (v := .tuple #[.agg #[.bool neg, .slice p A.length cp, .slice q B.length cq], .int .i64 er]) (by simp [results, Try.results69, go_sem, r0, r1, r2]) rfl ?_
    exact ⟨_, rfl, IsF.result BX4.out (fun _ h => by cases h) (fun _ h => by cases h) HVA.out HVB.out, ((BW4.out.setCell (Nat.le_refl _) _).setCell (Nat.le_refl _) _).setCell (Nat.le_refl _) _⟩
  · have hb : (n1 == n2) = false := by rw [beq_eq_false_iff_ne]; exact hn
    by_cases hlt : X < Y
    · have hsp : Hid (sumR n1 X n2 Y D = made n2 (Y - X) D) := by show _ = _; unfold sumR; rw [if_neg hn, if_pos hlt]
      clear hn
      go_enter Try.func69, Try.ntmps69
      go_wp2_with fail
      refine (Compare_c _ _ _ (limbs X) (limbs Y) H1.out H2.out).mono ?_
      rintro e w2 ⟨r, rfl, hr, n2', rfl⟩
      have hge : 0 ≤ r ↔ Y ≤ X := hr.ge
      obtain ⟨rb1, rb2⟩ := cmp_bd hr
      have hbn := below_drewN (w.alloc (.cells #[.bool false, .slice none 0 0, .slice none 0 0] 25)) n2' (w.alloc (.cells #[.bool false, .slice none 0 0, .slice none 0 0] 25)).heap.size
      obtain ⟨W2, hW2⟩ : ∃ W2, W2 = (w.alloc (.cells #[.bool false, .slice none 0 0, .slice none 0 0] 25)).drewN n2' := ⟨_, rfl⟩
      rw [← hW2] at hbn ⊢
      clear hW2
      replace H1 := Lib.hid (H1.out.after hbn)
      replace H2 := Lib.hid (H2.out.after hbn)
      replace H3 := Lib.hid (H3.out.after hbn)
      replace BR := Lib.hid (BR.out.after hbn)
      replace HB0 := Lib.hid (HB0.out.trans (hbn.mono HB0.out.size))
      clear hbn hr
      have hr0 : r < 0 := by omega
      have hdec : decide (0 ≤ r) = false := by simp; omega
      clear hge
      go_wp2_with fail
      refine (Diff_n _ _ _ Y X H2.out H1.out (by omega) (by omega)).mono ?_
      rintro e w3 ⟨v3, rfl, hv3, hb3⟩
      have HV3 := Lib.hid hv3
      have H33 := Lib.hid (H3.out.after hb3)
      have BRX := Lib.hid (BR.out.after hb3)
      have HBX := Lib.hid (HB0.out.trans (hb3.mono HB0.out.size))
      clear hv3 hb3 H1 H2 H3 BR HB0
      go_wp2_with fail
      refine (Made_c w3 v3 vd (Y - X) D n2 HV3.out H33.out hD L2.out (by omega)).mono ?_
      rw [← hsp.out]
      rintro e w4 ⟨v4, rfl, hv4, hb4⟩
      obtain ⟨va4, vb4, rfl, h41, h42⟩ := hv4
      have hbb := HBX.out.trans (hb4.mono HBX.out.size)
      have bx4 := BRX.out.after hb4
      obtain ⟨p, cp, rfl, _, _⟩ := h41.shape
      obtain ⟨q, cq, rfl, _, _⟩ := h42.shape
      obtain ⟨r0, r1, r2⟩ := bx4.cells3
      have f0 := bx4.frozen 0
      have f1 := bx4.frozen 1
      have f2 := bx4.frozen 2
      generalize hof2 : sumR n1 X n2 Y D = o at *
      obtain ⟨⟨neg, A, B⟩, er⟩ := o
      have HVA := Lib.hid h41
      have HVB := Lib.hid h42
      have BX4 := Lib.hid bx4
      have BW4 := Lib.hid hbb
      clear h41 h42 bx4 hb4 hof2 hbb hsp
      simp only at HVA HVB
      go_wp2_with fail
      refine bodyPost_ret (v := .tuple #[.agg #[.bool neg, .slice p A.length cp, .slice q B.length cq], .int .i64 er]) (by simp [results, Try.results69, go_sem, r0, r1, r2]) rfl ?_
      exact ⟨_, rfl, IsF.result BX4.out (fun _ h => by cases h) (fun _ h => by cases h) HVA.out HVB.out, ((BW4.out.setCell (Nat.le_refl _) _).setCell (Nat.le_refl _) _).setCell (Nat.le_refl _) _⟩
    · have hsp : Hid (sumR n1 X n2 Y D = made n1 (X - Y) D) := by show _ = _; unfold sumR; rw [if_neg hn, if_neg hlt]
      clear hn
      go_enter Try.func69, Try.ntmps69
      go_wp2_with fail
      refine (Compare_c _ _ _ (limbs X) (limbs Y) H1.out H2.out).mono ?_
      rintro e w2 ⟨r, rfl, hr, n2', rfl⟩
      have hge : 0 ≤ r ↔ Y ≤ X := hr.ge
      obtain ⟨rb1, rb2⟩ := cmp_bd hr
      have hbn := below_drewN (w.alloc (.cells #[.bool false, .slice none 0 0, .slice none 0 0] 25)) n2' (w.alloc (.cells #[.bool false, .slice none 0 0, .slice none 0 0] 25)).heap.size
      obtain ⟨W2, hW2⟩ : ∃ W2, W2 = (w.alloc (.cells #[.bool false, .slice none 0 0, .slice none 0 0] 25)).drewN n2' := ⟨_, rfl⟩
      rw [← hW2] at hbn ⊢
      clear hW2
      replace H1 := Lib.hid (H1.out.after hbn)
      replace H2 := Lib.hid (H2.out.after hbn)
      replace H3 := Lib.hid (H3.out.after hbn)
      replace BR := Lib.hid (BR.out.after hbn)
      replace HB0 := Lib.hid (HB0.out.trans (hbn.mono HB0.out.size))
      clear hbn hr
      have hr0 : 0 ≤ r := by omega
      have hdec : decide (0 ≤ r) = true := by simp; omega
      clear hge
      go_wp2_with fail
      refine (Diff_n _ _ _ X Y H1.out H2.out (by omega) (by omega)).mono ?_
      rintro e w3 ⟨v3, rfl, hv3, hb3⟩
      have HV3 := Lib.hid hv3
      have H33 := Lib.hid (H3.out.after hb3)
      have BRX := Lib.hid (BR.out.after hb3)
      have HBX := Lib.hid (HB0.out.trans (hb3.mono HB0.out.size))
      clear hv3 hb3 H1 H2 H3 BR HB0
      go_wp2_with fail
      refine (Made_c w3 v3 vd (X - Y) D n1 HV3.out H33.out hD L1.out (by omega)).mono ?_
      rw [← hsp.out]
      rintro e w4 ⟨v4, rfl, hv4, hb4⟩
      obtain ⟨va4, vb4, rfl, h41, h42⟩ := hv4
      have hbb := HBX.out.trans (hb4.mono HBX.out.size)
      have bx4 := BRX.out.after hb4
      obtain ⟨p, cp, rfl, _, _⟩ := h41.shape
      obtain ⟨q, cq, rfl, _, _⟩ := h42.shape
      obtain ⟨r0, r1, r2⟩ := bx4.cells3
      have f0 := bx4.frozen 0
      have f1 := bx4.frozen 1
      have f2 := bx4.frozen 2
      generalize hof2 : sumR n1 X n2 Y D = o at *
      obtain ⟨⟨neg, A, B⟩, er⟩ := o
      have HVA := Lib.hid h41
      have HVB := Lib.hid h42
      have BX4 := Lib.hid bx4
      have BW4 := Lib.hid hbb
      clear h41 h42 bx4 hb4 hof2 hbb hsp
      simp only at HVA HVB
      go_wp2_with fail
      refine bodyPost_ret (v := .tuple #[.agg #[.bool neg, .slice p A.length cp, .slice q B.length cq], .int .i64 er]) (by simp [results, Try.results69, go_sem, r0, r1, r2]) rfl ?_
      exact ⟨_, rfl, IsF.result BX4.out (fun _ h => by cases h) (fun _ h => by cases h) HVA.out HVB.out, ((BW4.out.setCell (Nat.le_refl _) _).setCell (Nat.le_refl _) _).setCell (Nat.le_refl _) _⟩

set_option maxRecDepth 100000 in
set_option maxHeartbeats 4000000 in
theorem rAdd_c (w : World) (v u : Value) (x y : F) (h : IsF w v x) (k : IsF w u y) : Calls Try.prog 29 #[v, u] w (RetF w (opF sumN x y)) := by
  have HX := h
  have HY := k
  obtain ⟨va, vb, rfl, _, _⟩ := h
  obtain ⟨vc, vd, rfl, _, _⟩ := k
  obtain ⟨W0, hW, bx, by', br, hsz, hb0⟩ := start3 w #[.bool x.neg, va, vb] #[.bool y.neg, vc, vd] #[.bool false, .slice none 0 0, .slice none 0 0] 25
  obtain ⟨c0, c1, c2⟩ := bx.cells3
  obtain ⟨d0, d1, d2⟩ := by'.cells3
  have H1 := Lib.hid (HX.after hb0)
  have H2 := Lib.hid (HY.after hb0)
  have HB0 := Lib.hid hb0
  have BX := Lib.hid bx
  have BY := Lib.hid by'
  have BR := Lib.hid br
  clear HX HY bx by' br hb0
  by_cases hx : ValidF x
  · have HVX := Lib.hid hx
    clear hx
    by_cases hy : ValidF y
    · have HVY := Lib.hid hy
      clear hy
      go_enter Try.func29, Try.ntmps29
      go_upto_region 1 with fail
      rw [← hW]
      clear hW
      go_wp2_with fail
      refine (RValid_c _ _ _ H1.out).mono ?_
      intro e w1 hr
      obtain ⟨rfl, hb1⟩ := hr.yes HVX.out
      obtain ⟨d0', d1', d2'⟩ := (BY.out.after hb1).cells3
      have K1 := Lib.hid (H1.out.after hb1)
      have K2 := Lib.hid (H2.out.after hb1)
      have BX1 := Lib.hid (BX.out.after hb1)
      have BY1 := Lib.hid (BY.out.after hb1)
      have BR1 := Lib.hid (BR.out.after hb1)
      have KW := Lib.hid (HB0.out.trans (hb1.mono HB0.out.size))
      clear hr hb1 c0 c1 c2 d0 d1 d2 H1 H2 BX BY BR HB0
      go_wp2_with fail
      refine (RValid_c _ _ _ K2.out).mono ?_
      intro e w2 hr
      obtain ⟨rfl, hb1⟩ := hr.yes HVY.out
      have M1 := Lib.hid (K1.out.after hb1)
      have M2 := Lib.hid (K2.out.after hb1)
      have BX2 := Lib.hid (BX1.out.after hb1)
      have BY2 := Lib.hid (BY1.out.after hb1)
      have BR2 := Lib.hid (BR1.out.after hb1)
      have MW := Lib.hid (KW.out.trans (hb1.mono KW.out.size))
      clear hr hb1 K1 K2 KW BX1 BY1 BR1 d0' d1' d2'
      have ex := HVX.out
      have ey := HVY.out
      have ok1 := ex.2.2
      have ok2 := ey.2.2
      obtain ⟨va', vb', e1, ha', hb'⟩ := M1.out
      obtain ⟨rfl, rfl⟩ : va = va' ∧ vb = vb' := by simpa using e1
      obtain ⟨vc', vd', e2, hc', hd'⟩ := M2.out
      obtain ⟨rfl, rfl⟩ : vc = vc' ∧ vd = vd' := by simpa using e2
      have ca := ex.1
      have cb := ex.2.1
      have cc := ey.1
      have cd := ey.2.1
      unfold Canon at ca cb cc cd
      rw [ca] at ha'
      rw [cb] at hb'
      rw [cc] at hc'
      rw [cd] at hd'
      have A1 := Lib.hid ha'
      have A2 := Lib.hid hb'
      have A3 := Lib.hid hc'
      have A4 := Lib.hid hd'
      have o1 := ok1.n32
      have o2 := ok1.d32
      have o3 := ok2.n32
      have o4 := ok2.d32
      have o5 := ok1.pos
      have o6 := ok2.pos
      have hspec : Hid (opF sumN x y = sumR x.neg (val x.num * val y.den) y.neg (val y.num * val x.den) (val x.den * val y.den)) := by show _ = _; rw [opF_yes ⟨HVX.out, HVY.out⟩]; rfl
      generalize hoo : opF sumN x y = o at *
      clear hoo
      clear e1 e2 ha' hb' hc' hd' ca cb cc cd ex ey ok1 ok2 M1 M2
      generalize x.neg = n1 at *
      generalize y.neg = n2 at *
      generalize val x.num = a at *
      generalize val x.den = b at *
      generalize val y.num = c at *
      generalize val y.den = d at *
      have mkS : Hid (∀ w', Below w2.heap.size w2 w' → w'.cell? ⟨w.heap.size, 0, none⟩ = some (.bool n1) ∧ w'.cell? ⟨w.heap.size, 1, none⟩ = some va ∧ w'.cell? ⟨w.heap.size, 2, none⟩ = some vb ∧ w'.cell? ⟨w.heap.size + 1, 0, none⟩ = some (.bool n2) ∧ w'.cell? ⟨w.heap.size + 1, 1, none⟩ = some vc ∧ w'.cell? ⟨w.heap.size + 1, 2, none⟩ = some vd) := fun w' hb => ⟨(BX2.out.after hb).cell 0, (BX2.out.after hb).cell 1, (BX2.out.after hb).cell 2, (BY2.out.after hb).cell 0, (BY2.out.after hb).cell 1, (BY2.out.after hb).cell 2⟩
      have l1 : Hid ((limbs (a * d)).length ≤ 300000) := Nat.le_trans (limbs_mul_len _ _) (by omega)
      have l2 : Hid ((limbs (c * b)).length ≤ 300000) := Nat.le_trans (limbs_mul_len _ _) (by omega)
      have l3 : Hid ((limbs (b * d)).length ≤ 300000) := Nat.le_trans (limbs_mul_len _ _) (by omega)
      have hpos : Hid (0 < b * d) := Nat.mul_pos o5 o6
      go_upto_region 3 with fail
      go_region_held3 (fun w' => w'.cell? ⟨w.heap.size, 0, none⟩ = some (.bool n1) ∧ w'.cell? ⟨w.heap.size, 1, none⟩ = some va ∧ w'.cell? ⟨w.heap.size, 2, none⟩ = some vb ∧ w'.cell? ⟨w.heap.size + 1, 0, none⟩ = some (.bool n2) ∧ w'.cell? ⟨w.heap.size + 1, 1, none⟩ = some vc ∧ w'.cell? ⟨w.heap.size + 1, 2, none⟩ = some vd)
        (first | (refine mkS.out _ ?_; (repeat (first | with_reducible exact hk4 | with_reducible exact hk3 | with_reducible exact hk2 | with_reducible exact hk1 | with_reducible exact Below.refl _ _ | with_reducible refine below_dr ?_)); done) | (refine keep6s ?_ ?_ (mkS.out _ hk4); omega; omega))
        (first
         | (go_at_call_of 70 va; refine (Product_n _ va vd a d ?_ ?_ ?_ ?_).mono ?_; exact A1.out.after (below_dr (Below.refl _ w2)); exact A4.out.after (below_dr (Below.refl _ w2)); omega; omega; rintro e w3 ⟨vp, rfl, hvp, hbvp⟩; have hk1 := below_of_drew hbvp)
         | (go_at_call_of 70 vc; refine (Product_n _ vc vb c b ?_ ?_ ?_ ?_).mono ?_; exact A3.out.after hk1; exact A2.out.after hk1; omega; omega; rintro e w4 ⟨vq, rfl, hvq, hbvq⟩; have hk2 := hk1.trans (hbvq.mono hk1.size))
         | (go_at_call_of 70 vb; refine (Product_n _ vb vd b d ?_ ?_ ?_ ?_).mono ?_; exact A2.out.after hk2; exact A4.out.after hk2; omega; omega; rintro e w5 ⟨vr, rfl, hvr, hbvr⟩; have hk3 := hk2.trans (hbvr.mono hk2.size))
         | (go_at_call 69; refine (rsum_c _ vp vq vr n1 n2 (a * d) (c * b) (b * d) ((hvp.after hbvq).after hbvr) (hvq.after hbvr) hvr hpos.out l1.out l2.out l3.out).mono ?_; rw [← hspec.out]; rintro e w6 ⟨v6, rfl, hv6, hb6⟩; have hk4 := hk3.trans (hb6.mono hk3.size); obtain ⟨va6, vb6, rfl, h51, h52⟩ := hv6; obtain ⟨p, cp, rfl, _, _⟩ := h51.shape; obtain ⟨q, cq, rfl, _, _⟩ := h52.shape; have bx5 := BR2.out.after hk4; obtain ⟨r0, r1, r2⟩ := bx5.cells3; have f0 := bx5.frozen 0; have f1 := bx5.frozen 1; have f2 := bx5.frozen 2))
      have BW5 := MW.out.trans (hk4.mono MW.out.size)
      have BX5 := Lib.hid bx5
      have HVA := Lib.hid h51
      have HVB := Lib.hid h52
      have BW5 := Lib.hid BW5
      clear hk4 bx5 h51 h52 mkS
      go_wp2_with fail
      refine bodyPost_ret (v := .tuple #[.agg #[.bool o.1.neg, .slice p o.1.num.length cp, .slice q o.1.den.length cq], .int .i64 o.2]) (by simp [results, Try.results29, go_sem, r0, r1, r2]) rfl ?_
      exact ⟨_, rfl, IsF.result BX5.out (fun _ h => by cases h) (fun _ h => by cases h) HVA.out HVB.out, ((BW5.out.setCell (p := ⟨w.heap.size + 2, 0, none⟩) (by simp) _).setCell (p := ⟨w.heap.size + 2, 1, none⟩) (by simp) _).setCell (p := ⟨w.heap.size + 2, 2, none⟩) (by simp) _⟩
    · have HVY := Lib.hid hy
      have hno : Hid (opF sumN x y = (F0, 1)) := opF_no fun hh => hy hh.2
      clear hy
      go_enter Try.func29, Try.ntmps29
      go_upto_region 1 with fail
      rw [← hW]
      clear hW
      go_wp2_with fail
      refine (RValid_c _ _ _ H1.out).mono ?_
      intro e w1 hr
      obtain ⟨rfl, hb1⟩ := hr.yes HVX.out
      obtain ⟨d0', d1', d2'⟩ := (BY.out.after hb1).cells3
      have K2 := Lib.hid (H2.out.after hb1)
      have BR1 := Lib.hid (BR.out.after hb1)
      have KW := Lib.hid (HB0.out.trans (hb1.mono HB0.out.size))
      clear hr hb1 c0 c1 c2 d0 d1 d2 H1 H2 BX BY BR HB0
      go_wp2_with fail
      refine (RValid_c _ _ _ K2.out).mono ?_
      intro e w2 hr
      obtain ⟨rfl, hb1⟩ := hr.no HVY.out
      have bx5 := BR1.out.after hb1
      obtain ⟨r0, r1, r2⟩ := bx5.cells3
      have f0 := bx5.frozen 0
      have f1 := bx5.frozen 1
      have f2 := bx5.frozen 2
      have BW5 := Lib.hid (KW.out.trans (hb1.mono KW.out.size))
      clear hr hb1 bx5 K2 d0' d1' d2'
      go_wp2_with fail
      refine bodyPost_ret (v := .tuple #[.agg #[.bool false, .slice none 0 0, .slice none 0 0], .int .i64 1]) (by simp [results, Try.results29, go_sem, r0, r1, r2]) rfl ?_
      rw [hno.out]
      exact ⟨_, rfl, IsF.zero _, ((BW5.out.setCell (p := ⟨w.heap.size + 2, 0, none⟩) (by simp) _).setCell (p := ⟨w.heap.size + 2, 1, none⟩) (by simp) _).setCell (p := ⟨w.heap.size + 2, 2, none⟩) (by simp) _⟩
  · have HVX := Lib.hid hx
    have hno : Hid (opF sumN x y = (F0, 1)) := opF_no fun hh => hx hh.1
    clear hx
    go_enter Try.func29, Try.ntmps29
    go_upto_region 1 with fail
    rw [← hW]
    clear hW
    go_wp2_with fail
    refine (RValid_c _ _ _ H1.out).mono ?_
    intro e w1 hr
    obtain ⟨rfl, hb1⟩ := hr.no HVX.out
    have bx5 := BR.out.after hb1
    obtain ⟨r0, r1, r2⟩ := bx5.cells3
    have f0 := bx5.frozen 0
    have f1 := bx5.frozen 1
    have f2 := bx5.frozen 2
    have BW5 := Lib.hid (HB0.out.trans (hb1.mono HB0.out.size))
    clear hr hb1 bx5 c0 c1 c2 d0 d1 d2 H1 H2
    go_wp2_with fail
    refine bodyPost_ret (v := .tuple #[.agg #[.bool false, .slice none 0 0, .slice none 0 0], .int .i64 1]) (by simp [results, Try.results29, go_sem, r0, r1, r2]) rfl ?_
    rw [hno.out]
    exact ⟨_, rfl, IsF.zero _, ((BW5.out.setCell (p := ⟨w.heap.size + 2, 0, none⟩) (by simp) _).setCell (p := ⟨w.heap.size + 2, 1, none⟩) (by simp) _).setCell (p := ⟨w.heap.size + 2, 2, none⟩) (by simp) _⟩

set_option maxRecDepth 100000 in
set_option maxHeartbeats 4000000 in
theorem rMul_c (w : World) (v u : Value) (x y : F) (h : IsF w v x) (k : IsF w u y) : Calls Try.prog 31 #[v, u] w (RetF w (opF mulN x y)) := by
  have HX := h
  have HY := k
  obtain ⟨va, vb, rfl, _, _⟩ := h
  obtain ⟨vc, vd, rfl, _, _⟩ := k
  obtain ⟨W0, hW, bx, by', br, hsz, hb0⟩ := start3 w #[.bool x.neg, va, vb] #[.bool y.neg, vc, vd] #[.bool false, .slice none 0 0, .slice none 0 0] 25
  obtain ⟨c0, c1, c2⟩ := bx.cells3
  obtain ⟨d0, d1, d2⟩ := by'.cells3
  have H1 := Lib.hid (HX.after hb0)
  have H2 := Lib.hid (HY.after hb0)
  have HB0 := Lib.hid hb0
  have BX := Lib.hid bx
  have BY := Lib.hid by'
  have BR := Lib.hid br
  clear HX HY bx by' br hb0
  by_cases hx : ValidF x
  · have HVX := Lib.hid hx
    clear hx
    by_cases hy : ValidF y
    · have HVY := Lib.hid hy
      clear hy
      go_enter Try.func31, Try.ntmps31
      go_upto_region 1 with fail
      rw [← hW]
      clear hW
      go_wp2_with fail
      refine (RValid_c _ _ _ H1.out).mono ?_
      intro e w1 hr
      obtain ⟨rfl, hb1⟩ := hr.yes HVX.out
      obtain ⟨d0', d1', d2'⟩ := (BY.out.after hb1).cells3
      have K1 := Lib.hid (H1.out.after hb1)
      have K2 := Lib.hid (H2.out.after hb1)
      have BX1 := Lib.hid (BX.out.after hb1)
      have BY1 := Lib.hid (BY.out.after hb1)
      have BR1 := Lib.hid (BR.out.after hb1)
      have KW := Lib.hid (HB0.out.trans (hb1.mono HB0.out.size))
      clear hr hb1 c0 c1 c2 d0 d1 d2 H1 H2 BX BY BR HB0
      go_wp2_with fail
      refine (RValid_c _ _ _ K2.out).mono ?_
      intro e w2 hr
      obtain ⟨rfl, hb1⟩ := hr.yes HVY.out
      have M1 := Lib.hid (K1.out.after hb1)
      have M2 := Lib.hid (K2.out.after hb1)
      have BX2 := Lib.hid (BX1.out.after hb1)
      have BY2 := Lib.hid (BY1.out.after hb1)
      have BR2 := Lib.hid (BR1.out.after hb1)
      have MW := Lib.hid (KW.out.trans (hb1.mono KW.out.size))
      clear hr hb1 K1 K2 KW BX1 BY1 BR1 d0' d1' d2'
      have ex := HVX.out
      have ey := HVY.out
      have ok1 := ex.2.2
      have ok2 := ey.2.2
      obtain ⟨va', vb', e1, ha', hb'⟩ := M1.out
      obtain ⟨rfl, rfl⟩ : va = va' ∧ vb = vb' := by simpa using e1
      obtain ⟨vc', vd', e2, hc', hd'⟩ := M2.out
      obtain ⟨rfl, rfl⟩ : vc = vc' ∧ vd = vd' := by simpa using e2
      have ca := ex.1
      have cb := ex.2.1
      have cc := ey.1
      have cd := ey.2.1
      unfold Canon at ca cb cc cd
      rw [ca] at ha'
      rw [cb] at hb'
      rw [cc] at hc'
      rw [cd] at hd'
      have A1 := Lib.hid ha'
      have A2 := Lib.hid hb'
      have A3 := Lib.hid hc'
      have A4 := Lib.hid hd'
      have o1 := ok1.n32
      have o2 := ok1.d32
      have o3 := ok2.n32
      have o4 := ok2.d32
      have o5 := ok1.pos
      have o6 := ok2.pos
      have hspec : Hid (opF mulN x y = made (!(x.neg == y.neg)) (val x.num * val y.num) (val x.den * val y.den)) := by show _ = _; rw [opF_yes ⟨HVX.out, HVY.out⟩]; rfl
      generalize hoo : opF mulN x y = o at *
      clear hoo
      clear e1 e2 ha' hb' hc' hd' ca cb cc cd ex ey ok1 ok2 M1 M2
      generalize x.neg = n1 at *
      generalize y.neg = n2 at *
      generalize val x.num = a at *
      generalize val x.den = b at *
      generalize val y.num = c at *
      generalize val y.den = d at *
      have mkS : Hid (∀ w', Below w2.heap.size w2 w' → w'.cell? ⟨w.heap.size, 0, none⟩ = some (.bool n1) ∧ w'.cell? ⟨w.heap.size, 1, none⟩ = some va ∧ w'.cell? ⟨w.heap.size, 2, none⟩ = some vb ∧ w'.cell? ⟨w.heap.size + 1, 0, none⟩ = some (.bool n2) ∧ w'.cell? ⟨w.heap.size + 1, 1, none⟩ = some vc ∧ w'.cell? ⟨w.heap.size + 1, 2, none⟩ = some vd) := fun w' hb => ⟨(BX2.out.after hb).cell 0, (BX2.out.after hb).cell 1, (BX2.out.after hb).cell 2, (BY2.out.after hb).cell 0, (BY2.out.after hb).cell 1, (BY2.out.after hb).cell 2⟩
      have l1 : Hid ((limbs (a * c)).length ≤ 400000) := Nat.le_trans (limbs_mul_len _ _) (by omega)
      have l2 : Hid ((limbs (b * d)).length ≤ 400000) := Nat.le_trans (limbs_mul_len _ _) (by omega)
      have hpos : Hid (0 < b * d) := Nat.mul_pos o5 o6
      go_upto_region 3 with fail
      go_region_held3 (fun w' => w'.cell? ⟨w.heap.size, 0, none⟩ = some (.bool n1) ∧ w'.cell? ⟨w.heap.size, 1, none⟩ = some va ∧ w'.cell? ⟨w.heap.size, 2, none⟩ = some vb ∧ w'.cell? ⟨w.heap.size + 1, 0, none⟩ = some (.bool n2) ∧ w'.cell? ⟨w.heap.size + 1, 1, none⟩ = some vc ∧ w'.cell? ⟨w.heap.size + 1, 2, none⟩ = some vd)
        (first | (refine mkS.out _ ?_; (repeat (first | with_reducible exact hk4 | with_reducible exact hk3 | with_reducible exact hk2 | with_reducible exact hk1 | with_reducible exact Below.refl _ _ | with_reducible refine below_dr ?_)); done) | (refine keep6s ?_ ?_ (mkS.out _ hk4); omega; omega))
        (first
         | (go_at_call_of 70 va; refine (Product_n _ va vc a c ?_ ?_ ?_ ?_).mono ?_; exact A1.out.after (below_dr (Below.refl _ w2)); exact A3.out.after (below_dr (Below.refl _ w2)); omega; omega; rintro e w3 ⟨vp, rfl, hvp, hbvp⟩; have hk1 := below_of_drew hbvp)
         | (go_at_call_of 70 vb; refine (Product_n _ vb vd b d ?_ ?_ ?_ ?_).mono ?_; exact A2.out.after hk1; exact A4.out.after hk1; omega; omega; rintro e w4 ⟨vq, rfl, hvq, hbvq⟩; have hk2 := hk1.trans (hbvq.mono hk1.size))
         | (go_at_call 50; refine (Made_c _ vp vq (a * c) (b * d) (!(n1 == n2)) (hvp.after hbvq) hvq hpos.out l1.out l2.out).mono ?_; rw [← hspec.out]; rintro e w6 ⟨v6, rfl, hv6, hb6⟩; have hk4 := hk2.trans (hb6.mono hk2.size); obtain ⟨va6, vb6, rfl, h51, h52⟩ := hv6; obtain ⟨p, cp, rfl, _, _⟩ := h51.shape; obtain ⟨q, cq, rfl, _, _⟩ := h52.shape; have bx5 := BR2.out.after hk4; obtain ⟨r0, r1, r2⟩ := bx5.cells3; have f0 := bx5.frozen 0; have f1 := bx5.frozen 1; have f2 := bx5.frozen 2))
      have BW5 := MW.out.trans (hk4.mono MW.out.size)
      have BX5 := Lib.hid bx5
      have HVA := Lib.hid h51
      have HVB := Lib.hid h52
      have BW5 := Lib.hid BW5
      clear hk4 bx5 h51 h52 mkS
      go_wp2_with fail
      refine bodyPost_ret (v := .tuple #[.agg #[.bool o.1.neg, .slice p o.1.num.length cp, .slice q o.1.den.length cq], .int .i64 o.2]) (by simp [results, Try.results31, go_sem, r0, r1, r2]) rfl ?_
      exact ⟨_, rfl, IsF.result BX5.out (fun _ h => by cases h) (fun _ h => by cases h) HVA.out HVB.out, ((BW5.out.setCell (p := ⟨w.heap.size + 2, 0, none⟩) (by simp) _).setCell (p := ⟨w.heap.size + 2, 1, none⟩) (by simp) _).setCell (p := ⟨w.heap.size + 2, 2, none⟩) (by simp) _⟩
    · have HVY := Lib.hid hy
      have hno : Hid (opF mulN x y = (F0, 1)) := opF_no fun hh => hy hh.2
      clear hy
      go_enter Try.func31, Try.ntmps31
      go_upto_region 1 with fail
      rw [← hW]
      clear hW
      go_wp2_with fail
      refine (RValid_c _ _ _ H1.out).mono ?_
      intro e w1 hr
      obtain ⟨rfl, hb1⟩ := hr.yes HVX.out
      obtain ⟨d0', d1', d2'⟩ := (BY.out.after hb1).cells3
      have K2 := Lib.hid (H2.out.after hb1)
      have BR1 := Lib.hid (BR.out.after hb1)
      have KW := Lib.hid (HB0.out.trans (hb1.mono HB0.out.size))
      clear hr hb1 c0 c1 c2 d0 d1 d2 H1 H2 BX BY BR HB0
      go_wp2_with fail
      refine (RValid_c _ _ _ K2.out).mono ?_
      intro e w2 hr
      obtain ⟨rfl, hb1⟩ := hr.no HVY.out
      have bx5 := BR1.out.after hb1
      obtain ⟨r0, r1, r2⟩ := bx5.cells3
      have f0 := bx5.frozen 0
      have f1 := bx5.frozen 1
      have f2 := bx5.frozen 2
      have BW5 := Lib.hid (KW.out.trans (hb1.mono KW.out.size))
      clear hr hb1 bx5 K2 d0' d1' d2'
      go_wp2_with fail
      refine bodyPost_ret (v := .tuple #[.agg #[.bool false, .slice none 0 0, .slice none 0 0], .int .i64 1]) (by simp [results, Try.results31, go_sem, r0, r1, r2]) rfl ?_
      rw [hno.out]
      exact ⟨_, rfl, IsF.zero _, ((BW5.out.setCell (p := ⟨w.heap.size + 2, 0, none⟩) (by simp) _).setCell (p := ⟨w.heap.size + 2, 1, none⟩) (by simp) _).setCell (p := ⟨w.heap.size + 2, 2, none⟩) (by simp) _⟩
  · have HVX := Lib.hid hx
    have hno : Hid (opF mulN x y = (F0, 1)) := opF_no fun hh => hx hh.1
    clear hx
    go_enter Try.func31, Try.ntmps31
    go_upto_region 1 with fail
    rw [← hW]
    clear hW
    go_wp2_with fail
    refine (RValid_c _ _ _ H1.out).mono ?_
    intro e w1 hr
    obtain ⟨rfl, hb1⟩ := hr.no HVX.out
    have bx5 := BR.out.after hb1
    obtain ⟨r0, r1, r2⟩ := bx5.cells3
    have f0 := bx5.frozen 0
    have f1 := bx5.frozen 1
    have f2 := bx5.frozen 2
    have BW5 := Lib.hid (HB0.out.trans (hb1.mono HB0.out.size))
    clear hr hb1 bx5 c0 c1 c2 d0 d1 d2 H1 H2
    go_wp2_with fail
    refine bodyPost_ret (v := .tuple #[.agg #[.bool false, .slice none 0 0, .slice none 0 0], .int .i64 1]) (by simp [results, Try.results31, go_sem, r0, r1, r2]) rfl ?_
    rw [hno.out]
    exact ⟨_, rfl, IsF.zero _, ((BW5.out.setCell (p := ⟨w.heap.size + 2, 0, none⟩) (by simp) _).setCell (p := ⟨w.heap.size + 2, 1, none⟩) (by simp) _).setCell (p := ⟨w.heap.size + 2, 2, none⟩) (by simp) _⟩
end Go.Proofs.Ytaojdlcailpheaa
