/- Walks: Add, Sub, Mul, Div.
   Walks: Mul, Div, Sub.
   Walks: Div.
   Walks: sign, order, Cmp. -/
import Derived.Test.YtaojdlcailpheaaK06
import Derived.Test.YtaojdlcailpheaaK01
set_option linter.unusedVariables false
namespace Go.Proofs.Ytaojdlcailpheaa
open Go.RowKit

theorem reduced_o (w : World) (neg : Bool) :
    Calls Try.prog 49 #[.bool neg] w fun e w' => ∃ g, e = .returned (.func (.func 92) #[] #[.pointer (some ⟨g, 0, none⟩)]) ∧ w'.cell? ⟨g, 0, none⟩ = some (.bool neg) ∧ Below w.heap.size w w' := by
  refine (reduced_c w neg).mono ?_
  rintro e w' ⟨rfl, rfl⟩
  exact ⟨_, rfl, by simp, (Below.refl _ w).alloc (Nat.le_refl _) _⟩

/-- An operation on two valid fractions; otherwise ErrArg. -/
noncomputable def opF (g : Bool → Nat → Nat → Bool → Nat → Nat → F × Int) (x y : F) : F × Int :=
  open Classical in if ValidF x ∧ ValidF y then g x.neg (val x.num) (val x.den) y.neg (val y.num) (val y.den) else (F0, 1)
noncomputable def mulN (n1 : Bool) (a b : Nat) (n2 : Bool) (c d : Nat) : F × Int := made (!(n1 == n2)) (a * c) (b * d)
noncomputable def divN (n1 : Bool) (a b : Nat) (n2 : Bool) (c d : Nat) : F × Int := if c = 0 then (F0, 2) else made (!(n1 == n2)) (a * d) (b * c)
noncomputable def subN (n1 : Bool) (a b : Nat) (n2 : Bool) (c d : Nat) : F × Int := sumN n1 a b (!n2 && decide (0 < c)) c d

theorem opF_yes {g : Bool → Nat → Nat → Bool → Nat → Nat → F × Int} {x y : F} (h : ValidF x ∧ ValidF y) : opF g x y = g x.neg (val x.num) (val x.den) y.neg (val y.num) (val y.den) := by
  unfold opF; rw [if_pos h]
theorem opF_no {g : Bool → Nat → Nat → Bool → Nat → Nat → F × Int} {x y : F} (h : ¬ (ValidF x ∧ ValidF y)) : opF g x y = (F0, 1) := by
  unfold opF; rw [if_neg h]

/-- Six cells kept over a store of a struct elsewhere. -/
theorem keep6s {W : World} {x y R : Nat} {a b c d e f u0 u1 u2 : Value} (hx : R ≠ x) (hy : R ≠ y)
    (h : W.cell? ⟨x, 0, none⟩ = some a ∧ W.cell? ⟨x, 1, none⟩ = some b ∧ W.cell? ⟨x, 2, none⟩ = some c ∧ W.cell? ⟨y, 0, none⟩ = some d ∧ W.cell? ⟨y, 1, none⟩ = some e ∧ W.cell? ⟨y, 2, none⟩ = some f) :
    (((W.setCell ⟨R, 0, none⟩ u0).setCell ⟨R, 1, none⟩ u1).setCell ⟨R, 2, none⟩ u2).cell? ⟨x, 0, none⟩ = some a ∧ (((W.setCell ⟨R, 0, none⟩ u0).setCell ⟨R, 1, none⟩ u1).setCell ⟨R, 2, none⟩ u2).cell? ⟨x, 1, none⟩ = some b ∧
    (((W.setCell ⟨R, 0, none⟩ u0).setCell ⟨R, 1, none⟩ u1).setCell ⟨R, 2, none⟩ u2).cell? ⟨x, 2, none⟩ = some c ∧ (((W.setCell ⟨R, 0, none⟩ u0).setCell ⟨R, 1, none⟩ u1).setCell ⟨R, 2, none⟩ u2).cell? ⟨y, 0, none⟩ = some d ∧
    (((W.setCell ⟨R, 0, none⟩ u0).setCell ⟨R, 1, none⟩ u1).setCell ⟨R, 2, none⟩ u2).cell? ⟨y, 1, none⟩ = some e ∧ (((W.setCell ⟨R, 0, none⟩ u0).setCell ⟨R, 1, none⟩ u1).setCell ⟨R, 2, none⟩ u2).cell? ⟨y, 2, none⟩ = some f := by
  have k : ∀ (z i : Nat), R ≠ z → (((W.setCell ⟨R, 0, none⟩ u0).setCell ⟨R, 1, none⟩ u1).setCell ⟨R, 2, none⟩ u2).cell? ⟨z, i, none⟩ = W.cell? ⟨z, i, none⟩ := fun z i hz => by
    rw [World.cell?_setCell_other _ _ _ _ (fun e => hz (by injection e)), World.cell?_setCell_other _ _ _ _ (fun e => hz (by injection e)), World.cell?_setCell_other _ _ _ _ (fun e => hz (by injection e))]
  exact ⟨(k _ _ hx).trans h.1, (k _ _ hx).trans h.2.1, (k _ _ hx).trans h.2.2.1, (k _ _ hy).trans h.2.2.2.1, (k _ _ hy).trans h.2.2.2.2.1, (k _ _ hy).trans h.2.2.2.2.2⟩

/-- The closure of reduced, called last in a statement: what is known behind it. -/
theorem close_c (w1 W : World) (R g x y : Nat) (vp vq a0 b0 c0 d0 e0 f0 : Value) (nn : Bool) (N D : Nat) (r : F × Int) (hr : r = made nn N D) (hp : Sl W vp (limbs N)) (hq : Sl W vq (limbs D)) (hD : 0 < D)
    (hg : W.cell? ⟨g, 0, none⟩ = some (.bool nn)) (hN : (limbs N).length ≤ 1000000) (hDl : (limbs D).length ≤ 1000000) (hb : Below w1.heap.size w1 W) (hR : Box w1 R #[.bool false, .slice none 0 0, .slice none 0 0] 25)
    (hs : W.cell? ⟨x, 0, none⟩ = some a0 ∧ W.cell? ⟨x, 1, none⟩ = some b0 ∧ W.cell? ⟨x, 2, none⟩ = some c0 ∧ W.cell? ⟨y, 0, none⟩ = some d0 ∧ W.cell? ⟨y, 1, none⟩ = some e0 ∧ W.cell? ⟨y, 2, none⟩ = some f0) :
    Calls Try.prog 92 #[vp, vq, .pointer (some ⟨g, 0, none⟩)] W fun e w6 => ∃ p cp q cq, e = .returned (.tuple #[.agg #[.bool r.1.neg, .slice p r.1.num.length cp, .slice q r.1.den.length cq], .int .i64 r.2]) ∧
      (w6.cell? ⟨x, 0, none⟩ = some a0 ∧ w6.cell? ⟨x, 1, none⟩ = some b0 ∧ w6.cell? ⟨x, 2, none⟩ = some c0 ∧ w6.cell? ⟨y, 0, none⟩ = some d0 ∧ w6.cell? ⟨y, 1, none⟩ = some e0 ∧ w6.cell? ⟨y, 2, none⟩ = some f0) ∧
      w6.cell? ⟨R, 0, none⟩ = some (.bool false) ∧ w6.cell? ⟨R, 1, none⟩ = some (.slice none 0 0) ∧ w6.cell? ⟨R, 2, none⟩ = some (.slice none 0 0) ∧ w6.frozen? ⟨R, 0, none⟩ = false ∧ w6.frozen? ⟨R, 1, none⟩ = false ∧ w6.frozen? ⟨R, 2, none⟩ = false ∧
      Hid (Sl w6 (.slice p r.1.num.length cp) r.1.num ∧ Sl w6 (.slice q r.1.den.length cq) r.1.den ∧ Box w6 R #[.bool false, .slice none 0 0, .slice none 0 0] 25 ∧ Below w1.heap.size w1 w6) := by
  subst hr
  refine (reduced1_c W vp vq N D g nn hp hq hD hg hN hDl).mono ?_
  rintro e w6 ⟨v6, rfl, hv6, hb6⟩
  obtain ⟨va6, vb6, rfl, h61, h62⟩ := hv6
  obtain ⟨p, cp, rfl, _⟩ := h61.shape
  obtain ⟨q, cq, rfl, _⟩ := h62.shape
  have hbb := hb.trans (hb6.mono hb.size)
  have bx := hR.after hbb
  obtain ⟨r0, r1, r2⟩ := bx.cells3
  exact ⟨p, cp, q, cq, rfl, ⟨keep_cell hb6 hs.1, keep_cell hb6 hs.2.1, keep_cell hb6 hs.2.2.1, keep_cell hb6 hs.2.2.2.1, keep_cell hb6 hs.2.2.2.2.1, keep_cell hb6 hs.2.2.2.2.2⟩, r0, r1, r2, bx.frozen 0, bx.frozen 1, bx.frozen 2, ⟨h61, h62, bx, hbb⟩⟩

/-- Six cells kept over a call. -/
theorem keep6 {W w1 : World} {x y : Nat} {a b c d e f : Value} (hb : Below W.drew.heap.size W.drew w1) (h0 : W.cell? ⟨x, 0, none⟩ = some a) (h1 : W.cell? ⟨x, 1, none⟩ = some b) (h2 : W.cell? ⟨x, 2, none⟩ = some c)
    (h3 : W.cell? ⟨y, 0, none⟩ = some d) (h4 : W.cell? ⟨y, 1, none⟩ = some e) (h5 : W.cell? ⟨y, 2, none⟩ = some f) :
    w1.cell? ⟨x, 0, none⟩ = some a ∧ w1.cell? ⟨x, 1, none⟩ = some b ∧ w1.cell? ⟨x, 2, none⟩ = some c ∧ w1.cell? ⟨y, 0, none⟩ = some d ∧ w1.cell? ⟨y, 1, none⟩ = some e ∧ w1.cell? ⟨y, 2, none⟩ = some f :=
  ⟨keep_cell (below_of_drew hb) h0, keep_cell (below_of_drew hb) h1, keep_cell (below_of_drew hb) h2, keep_cell (below_of_drew hb) h3, keep_cell (below_of_drew hb) h4, keep_cell (below_of_drew hb) h5⟩
theorem keep6' {W w1 : World} {x y : Nat} {a b c d e f : Value} (hb : Below W.heap.size W w1)
    (h : W.cell? ⟨x, 0, none⟩ = some a ∧ W.cell? ⟨x, 1, none⟩ = some b ∧ W.cell? ⟨x, 2, none⟩ = some c ∧ W.cell? ⟨y, 0, none⟩ = some d ∧ W.cell? ⟨y, 1, none⟩ = some e ∧ W.cell? ⟨y, 2, none⟩ = some f) :
    w1.cell? ⟨x, 0, none⟩ = some a ∧ w1.cell? ⟨x, 1, none⟩ = some b ∧ w1.cell? ⟨x, 2, none⟩ = some c ∧ w1.cell? ⟨y, 0, none⟩ = some d ∧ w1.cell? ⟨y, 1, none⟩ = some e ∧ w1.cell? ⟨y, 2, none⟩ = some f :=
  ⟨keep_cell hb h.1, keep_cell hb h.2.1, keep_cell hb h.2.2.1, keep_cell hb h.2.2.2.1, keep_cell hb h.2.2.2.2.1, keep_cell hb h.2.2.2.2.2⟩

set_option maxRecDepth 100000 in
set_option maxHeartbeats 1000000 in
theorem Add_c (w : World) (v u : Value) (x y : F) (h : IsF w v x) (k : IsF w u y) : Calls Try.prog 25 #[v, u] w (RetF w (opF sumN x y)) := by
  have HX := h
  have HY := k
  obtain ⟨va, vb, rfl, _, _⟩ := h
  obtain ⟨vc, vd, rfl, _, _⟩ := k
  obtain ⟨W0, hW, bx, by', br, hsz, hb0⟩ := start3 w #[.bool x.neg, va, vb] #[.bool y.neg, vc, vd] #[.bool false, .slice none 0 0, .slice none 0 0] 25
  obtain ⟨c0, c1, c2⟩ := bx.cells3
  obtain ⟨d0, d1, d2⟩ := by'.cells3
  have H1 := Lib.hid (HX.after hb0)
  have H2 := Lib.hid (HY.after hb0)
  have HB0 := Lib.hid hb0
  have BX := Lib.hid bx
  have BY := Lib.hid by'
  have BR := Lib.hid br
  clear HX HY bx by' br hb0
  by_cases hv : ValidF x ∧ ValidF y
  · have hv' := Lib.hid hv
    clear hv
    go_enter Try.func25, Try.ntmps25
    go_upto_region 1 with fail
    rw [← hW]
    clear hW
    go_wp2_with fail
    refine (both_c _ _ _ _ _ H1.out H2.out).mono ?_
    intro e w1 hr
    obtain ⟨rfl, hb1⟩ := hr.yes hv'.out
    obtain ⟨c0', c1', c2'⟩ := (BX.out.after hb1).cells3
    obtain ⟨d0', d1', d2'⟩ := (BY.out.after hb1).cells3
    have K1 := Lib.hid (H1.out.after hb1)
    have K2 := Lib.hid (H2.out.after hb1)
    have KW := Lib.hid hb1
    clear hr hb1 c0 c1 c2 d0 d1 d2 H1 H2
    go_wp2_with fail
    have ex := hv'.out.1
    have ey := hv'.out.2
    have K1' := K1.out
    have K2' := K2.out
    rw [ex.eq] at K1'
    rw [ey.eq] at K2'
    have ok1 := ex.2.2
    have ok2 := ey.2.2
    refine (sum_c w1 _ _ x.neg y.neg (val x.num) (val x.den) (val y.num) (val y.den) (by simpa only [fr] using K1') (by simpa only [fr] using K2') ok1.pos ok2.pos (by have := ok1.n32; omega) (by have := ok1.d32; omega) (by have := ok2.n32; omega) (by have := ok2.d32; omega)).mono ?_
    rw [← opF_yes (g := sumN) hv'.out]
    rintro e w5 ⟨v5, rfl, hv5, hb5⟩
    obtain ⟨va5, vb5, rfl, h51, h52⟩ := hv5
    have hbb := KW.out.trans (hb5.mono KW.out.size)
    have bx5 := BR.out.after hbb
    obtain ⟨p, cp, rfl, hp1, hp2⟩ := h51.shape
    obtain ⟨q, cq, rfl, hq1, hq2⟩ := h52.shape
    obtain ⟨r0, r1, r2⟩ := bx5.cells3
    have f0 := bx5.frozen 0
    have f1 := bx5.frozen 1
    have f2 := bx5.frozen 2
    have bw5 := HB0.out.trans (hbb.mono HB0.out.size)
    generalize hof2 : opF sumN x y = o at *
    obtain ⟨⟨neg, A, B⟩, er⟩ := o
    have HVA := Lib.hid h51
    have HVB := Lib.hid h52
    have BX5 := Lib.hid bx5
    have BW5 := Lib.hid bw5
    clear h51 h52 bx5 bw5 hb5 hof2 hbb ex ey K1' K2' ok1 ok2
    simp only at HVA HVB
    go_wp2_with fail
    refine bodyPost_ret (v := .tuple #[.agg #[.bool neg, .slice p A.length cp, .slice q B.length cq], .int .i64 er]) (by simp [results, Try.results25, go_sem, r0, r1, r2]) rfl ?_
    exact ⟨_, rfl, IsF.result BX5.out (fun _ h => by cases h) (fun _ h => by cases h) HVA.out HVB.out, ((BW5.out.setCell (p := ⟨w.heap.size + 2, 0, none⟩) (by simp) _).setCell (p := ⟨w.heap.size + 2, 1, none⟩) (by simp) _).setCell (p := ⟨w.heap.size + 2, 2, none⟩) (by simp) _⟩
  · have hv' := Lib.hid hv
    clear hv
    go_enter Try.func25, Try.ntmps25
    go_upto_region 1 with fail
    rw [← hW]
    clear hW
    go_wp2_with fail
    refine (both_c _ _ _ _ _ H1.out H2.out).mono ?_
    intro e w1 hr
    obtain ⟨rfl, hb1⟩ := hr.no hv'.out
    have bx5 := BR.out.after hb1
    obtain ⟨r0, r1, r2⟩ := bx5.cells3
    have f0 := bx5.frozen 0
    have f1 := bx5.frozen 1
    have f2 := bx5.frozen 2
    have BW5 := Lib.hid (HB0.out.trans (hb1.mono HB0.out.size))
    clear hr hb1 c0 c1 c2 d0 d1 d2 H1 H2 bx5
    go_wp2_with fail
    refine bodyPost_ret (v := .tuple #[.agg #[.bool false, .slice none 0 0, .slice none 0 0], .int .i64 1]) (by simp [results, Try.results25, go_sem, r0, r1, r2]) rfl ?_
    rw [opF_no (g := sumN) hv'.out]
    exact ⟨_, rfl, IsF.zero _, ((BW5.out.setCell (p := ⟨w.heap.size + 2, 0, none⟩) (by simp) _).setCell (p := ⟨w.heap.size + 2, 1, none⟩) (by simp) _).setCell (p := ⟨w.heap.size + 2, 2, none⟩) (by simp) _⟩
end Go.Proofs.Ytaojdlcailpheaa

namespace Go.Proofs.Ytaojdlcailpheaa
open Go.RowKit

/-- What is known behind a call that returns a fraction, where a result struct and two structs handed in wait. -/
theorem closeP_of {w1 W w6 : World} {R x y : Nat} {a0 b0 c0 d0 e0 f0 : Value} {r : F × Int} {e : Ending} (hb : Below w1.heap.size w1 W) (hR : Box w1 R #[.bool false, .slice none 0 0, .slice none 0 0] 25)
    (hs : W.cell? ⟨x, 0, none⟩ = some a0 ∧ W.cell? ⟨x, 1, none⟩ = some b0 ∧ W.cell? ⟨x, 2, none⟩ = some c0 ∧ W.cell? ⟨y, 0, none⟩ = some d0 ∧ W.cell? ⟨y, 1, none⟩ = some e0 ∧ W.cell? ⟨y, 2, none⟩ = some f0)
    (h : RetF W r e w6) : ∃ p cp q cq, e = .returned (.tuple #[.agg #[.bool r.1.neg, .slice p r.1.num.length cp, .slice q r.1.den.length cq], .int .i64 r.2]) ∧
      (w6.cell? ⟨x, 0, none⟩ = some a0 ∧ w6.cell? ⟨x, 1, none⟩ = some b0 ∧ w6.cell? ⟨x, 2, none⟩ = some c0 ∧ w6.cell? ⟨y, 0, none⟩ = some d0 ∧ w6.cell? ⟨y, 1, none⟩ = some e0 ∧ w6.cell? ⟨y, 2, none⟩ = some f0) ∧
      w6.cell? ⟨R, 0, none⟩ = some (.bool false) ∧ w6.cell? ⟨R, 1, none⟩ = some (.slice none 0 0) ∧ w6.cell? ⟨R, 2, none⟩ = some (.slice none 0 0) ∧ w6.frozen? ⟨R, 0, none⟩ = false ∧ w6.frozen? ⟨R, 1, none⟩ = false ∧ w6.frozen? ⟨R, 2, none⟩ = false ∧
      Hid (Sl w6 (.slice p r.1.num.length cp) r.1.num ∧ Sl w6 (.slice q r.1.den.length cq) r.1.den ∧ Box w6 R #[.bool false, .slice none 0 0, .slice none 0 0] 25 ∧ Below w1.heap.size w1 w6) := by
  obtain ⟨v6, rfl, hv6, hb6⟩ := h
  obtain ⟨va6, vb6, rfl, h61, h62⟩ := hv6
  obtain ⟨p, cp, rfl, _⟩ := h61.shape
  obtain ⟨q, cq, rfl, _⟩ := h62.shape
  have hbb := hb.trans (hb6.mono hb.size)
  have bx := hR.after hbb
  obtain ⟨r0, r1, r2⟩ := bx.cells3
  exact ⟨p, cp, q, cq, rfl, ⟨keep_cell hb6 hs.1, keep_cell hb6 hs.2.1, keep_cell hb6 hs.2.2.1, keep_cell hb6 hs.2.2.2.1, keep_cell hb6 hs.2.2.2.2.1, keep_cell hb6 hs.2.2.2.2.2⟩, r0, r1, r2, bx.frozen 0, bx.frozen 1, bx.frozen 2, ⟨h61, h62, bx, hbb⟩⟩

set_option maxRecDepth 100000 in
set_option maxHeartbeats 1000000 in
theorem Mul_c (w : World) (v u : Value) (x y : F) (h : IsF w v x) (k : IsF w u y) : Calls Try.prog 27 #[v, u] w (RetF w (opF mulN x y)) := by
  have HX := h
  have HY := k
  obtain ⟨va, vb, rfl, _, _⟩ := h
  obtain ⟨vc, vd, rfl, _, _⟩ := k
  obtain ⟨W0, hW, bx, by', br, hsz, hb0⟩ := start3 w #[.bool x.neg, va, vb] #[.bool y.neg, vc, vd] #[.bool false, .slice none 0 0, .slice none 0 0] 25
  obtain ⟨c0, c1, c2⟩ := bx.cells3
  obtain ⟨d0, d1, d2⟩ := by'.cells3
  have H1 := Lib.hid (HX.after hb0)
  have H2 := Lib.hid (HY.after hb0)
  have HB0 := Lib.hid hb0
  have BX := Lib.hid bx
  have BY := Lib.hid by'
  have BR := Lib.hid br
  clear HX HY bx by' br hb0
  by_cases hv : ValidF x ∧ ValidF y
  · have hv' := Lib.hid hv
    clear hv
    go_enter Try.func27, Try.ntmps27
    go_upto_region 1 with fail
    rw [← hW]
    clear hW
    go_wp2_with fail
    refine (both_c _ _ _ _ _ H1.out H2.out).mono ?_
    intro e w1 hr
    obtain ⟨rfl, hb1⟩ := hr.yes hv'.out
    obtain ⟨c0', c1', c2'⟩ := (BX.out.after hb1).cells3
    obtain ⟨d0', d1', d2'⟩ := (BY.out.after hb1).cells3
    have K1 := Lib.hid (H1.out.after hb1)
    have K2 := Lib.hid (H2.out.after hb1)
    have KW := Lib.hid hb1
    clear hr hb1 c0 c1 c2 d0 d1 d2 H1 H2
    have ex := hv'.out.1
    have ey := hv'.out.2
    have ok1 := ex.2.2
    have ok2 := ey.2.2
    obtain ⟨va', vb', e1, ha', hb'⟩ := K1.out
    obtain ⟨rfl, rfl⟩ : va = va' ∧ vb = vb' := by simpa using e1
    obtain ⟨vc', vd', e2, hc', hd'⟩ := K2.out
    obtain ⟨rfl, rfl⟩ : vc = vc' ∧ vd = vd' := by simpa using e2
    have ca := ex.1
    have cb := ex.2.1
    have cc := ey.1
    have cd := ey.2.1
    unfold Canon at ca cb cc cd
    rw [ca] at ha'
    rw [cb] at hb'
    rw [cc] at hc'
    rw [cd] at hd'
    have A1 := Lib.hid ha'
    have A2 := Lib.hid hb'
    have A3 := Lib.hid hc'
    have A4 := Lib.hid hd'
    have o1 := ok1.n32
    have o2 := ok1.d32
    have o3 := ok2.n32
    have o4 := ok2.d32
    have o5 := ok1.pos
    have o6 := ok2.pos
    have hspec : Hid (opF mulN x y = made (!(x.neg == y.neg)) (val x.num * val y.num) (val x.den * val y.den)) := by show _ = _; rw [opF_yes hv'.out]; rfl
    generalize hoo : opF mulN x y = o at *
    clear hoo
    clear e1 e2 ha' hb' hc' hd' ca cb cc cd ex ey ok1 ok2 K1 K2
    have BRX := Lib.hid (BR.out.after KW.out)
    generalize x.neg = n1 at *
    generalize y.neg = n2 at *
    generalize val x.num = a at *
    generalize val x.den = b at *
    generalize val y.num = c at *
    generalize val y.den = d at *
    have l1 : Hid ((limbs (a * c)).length ≤ 1000000) := Nat.le_trans (limbs_mul_len _ _) (by omega)
    have l2 : Hid ((limbs (b * d)).length ≤ 1000000) := Nat.le_trans (limbs_mul_len _ _) (by omega)
    have hpos : Hid (0 < b * d) := Nat.mul_pos o5 o6
    go_upto_region 3 with fail
    go_region_held3 (fun w' => w'.cell? ⟨w.heap.size, 0, none⟩ = some (.bool n1) ∧ w'.cell? ⟨w.heap.size, 1, none⟩ = some va ∧ w'.cell? ⟨w.heap.size, 2, none⟩ = some vb ∧
        w'.cell? ⟨w.heap.size + 1, 0, none⟩ = some (.bool n2) ∧ w'.cell? ⟨w.heap.size + 1, 1, none⟩ = some vc ∧ w'.cell? ⟨w.heap.size + 1, 2, none⟩ = some vd)
      (first | (refine keep6s ?_ ?_ s6; omega; omega) | go_keep | (exact s6) | (exact s5) | (exact s4) | (exact s3))
      (first
       | (go_at_call 49; refine (reduced_o _ _).mono ?_; rintro e w3 ⟨g, rfl, hg, hb3⟩; have s3 := keep6 hb3 c0' c1' c2' d0' d1' d2')
       | (go_at_call_of 68 va; refine (times_n _ va vc a c ?_ ?_ ?_ ?_).mono ?_; exact Sl.after (w := w1.drew) A1.out hb3; exact Sl.after (w := w1.drew) A3.out hb3; omega; omega; rintro e w4 ⟨vp, rfl, hp, hb4⟩; have s4 := keep6' hb4 s3)
       | (go_at_call_of 68 vb; refine (times_n _ vb vd b d ?_ ?_ ?_ ?_).mono ?_; exact (Sl.after (w := w1.drew) A2.out hb3).after hb4; exact (Sl.after (w := w1.drew) A4.out hb3).after hb4; omega; omega; rintro e w5 ⟨vq, rfl, hq, hb5⟩; have s5 := keep6' hb5 s4)
       | (go_at_call 92; refine (close_c w1 _ (w.heap.size + 2) g w.heap.size (w.heap.size + 1) vp vq (.bool n1) va vb (.bool n2) vc vd (!(n1 == n2)) (a * c) (b * d) o ?_ ?_ ?_ ?_ ?_ ?_ ?_ ?_ ?_ ?_).mono ?_; exact hspec.out; exact hp.after hb5; exact hq; exact hpos.out; exact keep_cell hb5 (keep_cell hb4 hg); exact l1.out; exact l2.out; exact below_of_drew (hb3.trans ((hb4.trans (hb5.mono hb4.size)).mono hb3.size)); exact BRX.out; exact s5; rintro e w6 ⟨p, cp, q, cq, rfl, s6, r0, r1, r2, f0, f1, f2, hfin⟩))
    obtain ⟨HVA, HVB, BX5, hbb⟩ := hfin.out
    have BW5 := HB0.out.trans ((KW.out.trans (hbb.mono KW.out.size)).mono HB0.out.size)
    have HVA := Lib.hid HVA
    have HVB := Lib.hid HVB
    have BX5 := Lib.hid BX5
    have BW5 := Lib.hid BW5
    clear hfin hb3 hb4 hb5 hbb s3 s4 s5 s6 hp hq hg
    go_wp2_with fail
    refine bodyPost_ret (v := .tuple #[.agg #[.bool o.1.neg, .slice p o.1.num.length cp, .slice q o.1.den.length cq], .int .i64 o.2]) (by simp [results, Try.results27, go_sem, r0, r1, r2]) rfl ?_
    exact ⟨_, rfl, IsF.result BX5.out (fun _ h => by cases h) (fun _ h => by cases h) HVA.out HVB.out, ((BW5.out.setCell (p := ⟨w.heap.size + 2, 0, none⟩) (by simp) _).setCell (p := ⟨w.heap.size + 2, 1, none⟩) (by simp) _).setCell (p := ⟨w.heap.size + 2, 2, none⟩) (by simp) _⟩
  · have hv' := Lib.hid hv
    clear hv
    go_enter Try.func27, Try.ntmps27
    go_upto_region 1 with fail
    rw [← hW]
    clear hW
    go_wp2_with fail
    refine (both_c _ _ _ _ _ H1.out H2.out).mono ?_
    intro e w1 hr
    obtain ⟨rfl, hb1⟩ := hr.no hv'.out
    have bx5 := BR.out.after hb1
    obtain ⟨r0, r1, r2⟩ := bx5.cells3
    have f0 := bx5.frozen 0
    have f1 := bx5.frozen 1
    have f2 := bx5.frozen 2
    have BW5 := Lib.hid (HB0.out.trans (hb1.mono HB0.out.size))
    clear hr hb1 c0 c1 c2 d0 d1 d2 H1 H2 bx5
    go_wp2_with fail
    refine bodyPost_ret (v := .tuple #[.agg #[.bool false, .slice none 0 0, .slice none 0 0], .int .i64 1]) (by simp [results, Try.results27, go_sem, r0, r1, r2]) rfl ?_
    rw [opF_no (g := mulN) hv'.out]
    exact ⟨_, rfl, IsF.zero _, ((BW5.out.setCell (p := ⟨w.heap.size + 2, 0, none⟩) (by simp) _).setCell (p := ⟨w.heap.size + 2, 1, none⟩) (by simp) _).setCell (p := ⟨w.heap.size + 2, 2, none⟩) (by simp) _⟩
set_option maxRecDepth 100000 in
set_option maxHeartbeats 1000000 in
theorem Sub_c (w : World) (v u : Value) (x y : F) (h : IsF w v x) (k : IsF w u y) : Calls Try.prog 26 #[v, u] w (RetF w (opF subN x y)) := by
  have HX := h
  have HY := k
  obtain ⟨va, vb, rfl, _, _⟩ := h
  obtain ⟨vc, vd, rfl, _, _⟩ := k
  obtain ⟨W0, hW, bx, by', br, hsz, hb0⟩ := start3 w #[.bool x.neg, va, vb] #[.bool y.neg, vc, vd] #[.bool false, .slice none 0 0, .slice none 0 0] 25
  obtain ⟨c0, c1, c2⟩ := bx.cells3
  obtain ⟨d0, d1, d2⟩ := by'.cells3
  have H1 := Lib.hid (HX.after hb0)
  have H2 := Lib.hid (HY.after hb0)
  have HB0 := Lib.hid hb0
  have BX := Lib.hid bx
  have BY := Lib.hid by'
  have BR := Lib.hid br
  clear HX HY bx by' br hb0
  by_cases hv : ValidF x ∧ ValidF y
  · have hv' := Lib.hid hv
    clear hv
    go_enter Try.func26, Try.ntmps26
    go_upto_region 1 with fail
    rw [← hW]
    clear hW
    go_wp2_with fail
    refine (both_c _ _ _ _ _ H1.out H2.out).mono ?_
    intro e w1 hr
    obtain ⟨rfl, hb1⟩ := hr.yes hv'.out
    obtain ⟨c0', c1', c2'⟩ := (BX.out.after hb1).cells3
    obtain ⟨d0', d1', d2'⟩ := (BY.out.after hb1).cells3
    have K1 := Lib.hid (H1.out.after hb1)
    have K2 := Lib.hid (H2.out.after hb1)
    have KW := Lib.hid hb1
    clear hr hb1 c0 c1 c2 d0 d1 d2 H1 H2
    have ex := hv'.out.1
    have ey := hv'.out.2
    have ok1 := ex.2.2
    have ok2 := ey.2.2
    obtain ⟨va', vb', e1, ha', hb'⟩ := K1.out
    obtain ⟨rfl, rfl⟩ : va = va' ∧ vb = vb' := by simpa using e1
    obtain ⟨vc', vd', e2, hc', hd'⟩ := K2.out
    obtain ⟨rfl, rfl⟩ : vc = vc' ∧ vd = vd' := by simpa using e2
    have ca := ex.1
    have cb := ex.2.1
    have cc := ey.1
    have cd := ey.2.1
    unfold Canon at ca cb cc cd
    rw [ca] at ha'
    rw [cb] at hb'
    rw [cc] at hc'
    rw [cd] at hd'
    have A1 := Lib.hid ha'
    have A2 := Lib.hid hb'
    have A3 := Lib.hid hc'
    have A4 := Lib.hid hd'
    have o1 := ok1.n32
    have o2 := ok1.d32
    have o3 := ok2.n32
    have o4 := ok2.d32
    have o5 := ok1.pos
    have o6 := ok2.pos
    have hspec : Hid (opF subN x y = sumN x.neg (val x.num) (val x.den) (!y.neg && decide (0 < y.num.length)) (val y.num) (val y.den)) := by
      show _ = _
      rw [opF_yes hv'.out]
      unfold subN
      have : decide (0 < y.num.length) = decide (0 < val y.num) := by
        rw [cc]
        have e := limbs_len_zero (n := val y.num)
        rw [val_limbs]
        rw [decide_eq_decide]
        omega
      rw [this]
    generalize hoo : opF subN x y = o at *
    clear hoo
    have hX : Hid (IsF w1 (.agg #[.bool x.neg, va, vb]) (fr x.neg (val x.num) (val x.den))) := ⟨va, vb, rfl, ha', hb'⟩
    have hY : Hid (IsF w1 (.agg #[.bool y.neg, vc, vd]) y) := K2.out
    have ht : Hid (turnF y = fr (!y.neg && decide (0 < y.num.length)) (val y.num) (val y.den)) := by
      show _ = _
      unfold turnF fr
      rw [← cc, ← cd]
    clear e1 e2 ha' hb' hc' hd' ca cb cc cd ex ey ok1 ok2 K1 K2 A1 A2 A3 A4
    have BRX := Lib.hid (BR.out.after KW.out)
    go_upto_region 3 with fail
    go_region_held3 (fun w' => w'.cell? ⟨w.heap.size, 0, none⟩ = some (.bool x.neg) ∧ w'.cell? ⟨w.heap.size, 1, none⟩ = some va ∧ w'.cell? ⟨w.heap.size, 2, none⟩ = some vb ∧
        w'.cell? ⟨w.heap.size + 1, 0, none⟩ = some (.bool y.neg) ∧ w'.cell? ⟨w.heap.size + 1, 1, none⟩ = some vc ∧ w'.cell? ⟨w.heap.size + 1, 2, none⟩ = some vd)
      (first | (refine keep6s ?_ ?_ s6; omega; omega) | go_keep | (exact s6) | (exact s3))
      (first
       | (go_at_call 67; refine (turned_c _ _ y ?_).mono ?_; exact hY.out; rw [ht.out]; rintro e w3 ⟨vt, rfl, hvt, hb3⟩; have s3 := keep6 hb3 c0' c1' c2' d0' d1' d2')
       | (go_at_call 66; refine (sum_c _ _ _ x.neg _ (val x.num) (val x.den) (val y.num) (val y.den) ?_ hvt o5 o6 ?_ ?_ ?_ ?_).mono ?_; exact IsF.after (w := w1.drew) hX.out hb3; omega; omega; omega; omega; rw [← hspec.out]; intro e w6 h6; obtain ⟨p, cp, q, cq, rfl, s6, r0, r1, r2, f0, f1, f2, hfin⟩ := closeP_of (below_of_drew hb3) BRX.out s3 h6))
    obtain ⟨HVA, HVB, BX5, hbb⟩ := hfin.out
    have BW5 := HB0.out.trans ((KW.out.trans (hbb.mono KW.out.size)).mono HB0.out.size)
    have HVA := Lib.hid HVA
    have HVB := Lib.hid HVB
    have BX5 := Lib.hid BX5
    have BW5 := Lib.hid BW5
    clear hfin hb3 hbb s3 s6 hvt h6
    go_wp2_with fail
    refine bodyPost_ret (v := .tuple #[.agg #[.bool o.1.neg, .slice p o.1.num.length cp, .slice q o.1.den.length cq], .int .i64 o.2]) (by simp [results, Try.results26, go_sem, r0, r1, r2]) rfl ?_
    exact ⟨_, rfl, IsF.result BX5.out (fun _ h => by cases h) (fun _ h => by cases h) HVA.out HVB.out, ((BW5.out.setCell (p := ⟨w.heap.size + 2, 0, none⟩) (by simp) _).setCell (p := ⟨w.heap.size + 2, 1, none⟩) (by simp) _).setCell (p := ⟨w.heap.size + 2, 2, none⟩) (by simp) _⟩
  · have hv' := Lib.hid hv
    clear hv
    go_enter Try.func26, Try.ntmps26
    go_upto_region 1 with fail
    rw [← hW]
    clear hW
    go_wp2_with fail
    refine (both_c _ _ _ _ _ H1.out H2.out).mono ?_
    intro e w1 hr
    obtain ⟨rfl, hb1⟩ := hr.no hv'.out
    have bx5 := BR.out.after hb1
    obtain ⟨r0, r1, r2⟩ := bx5.cells3
    have f0 := bx5.frozen 0
    have f1 := bx5.frozen 1
    have f2 := bx5.frozen 2
    have BW5 := Lib.hid (HB0.out.trans (hb1.mono HB0.out.size))
    clear hr hb1 c0 c1 c2 d0 d1 d2 H1 H2 bx5
    go_wp2_with fail
    refine bodyPost_ret (v := .tuple #[.agg #[.bool false, .slice none 0 0, .slice none 0 0], .int .i64 1]) (by simp [results, Try.results26, go_sem, r0, r1, r2]) rfl ?_
    rw [opF_no (g := subN) hv'.out]
    exact ⟨_, rfl, IsF.zero _, ((BW5.out.setCell (p := ⟨w.heap.size + 2, 0, none⟩) (by simp) _).setCell (p := ⟨w.heap.size + 2, 1, none⟩) (by simp) _).setCell (p := ⟨w.heap.size + 2, 2, none⟩) (by simp) _⟩
end Go.Proofs.Ytaojdlcailpheaa

namespace Go.Proofs.Ytaojdlcailpheaa
open Go.RowKit

set_option maxRecDepth 100000 in
set_option maxHeartbeats 4000000 in
theorem Div_c (w : World) (v u : Value) (x y : F) (h : IsF w v x) (k : IsF w u y) : Calls Try.prog 28 #[v, u] w (RetF w (opF divN x y)) := by
  have HX := h
  have HY := k
  obtain ⟨va, vb, rfl, _, _⟩ := h
  obtain ⟨vc, vd, rfl, kc, _⟩ := k
  obtain ⟨pc, cpc, rfl, hpc1, hpc2⟩ := kc.shape
  clear kc
  obtain ⟨W0, hW, bx, by', br, hsz, hb0⟩ := start3 w #[.bool x.neg, va, vb] #[.bool y.neg, .slice pc y.num.length cpc, vd] #[.bool false, .slice none 0 0, .slice none 0 0] 25
  obtain ⟨c0, c1, c2⟩ := bx.cells3
  obtain ⟨d0, d1, d2⟩ := by'.cells3
  have H1 := Lib.hid (HX.after hb0)
  have H2 := Lib.hid (HY.after hb0)
  have HB0 := Lib.hid hb0
  have BX := Lib.hid bx
  have BY := Lib.hid by'
  have BR := Lib.hid br
  clear HX HY bx by' br hb0
  by_cases hv : ValidF x ∧ ValidF y
  · have hv' := Lib.hid hv
    clear hv
    go_enter Try.func28, Try.ntmps28
    go_upto_region 1 with fail
    rw [← hW]
    clear hW
    go_wp2_with fail
    refine (both_c _ _ _ _ _ H1.out H2.out).mono ?_
    intro e w1 hr
    obtain ⟨rfl, hb1⟩ := hr.yes hv'.out
    obtain ⟨c0', c1', c2'⟩ := (BX.out.after hb1).cells3
    obtain ⟨d0', d1', d2'⟩ := (BY.out.after hb1).cells3
    have K1 := Lib.hid (H1.out.after hb1)
    have K2 := Lib.hid (H2.out.after hb1)
    have KW := Lib.hid hb1
    clear hr hb1 c0 c1 c2 d0 d1 d2 H1 H2
    have hyc : y.num = limbs (val y.num) := hv'.out.2.1
    by_cases hcz : val y.num = 0
    · have hspec : Hid (opF divN x y = (F0, 2)) := by show _ = _; rw [opF_yes hv'.out]; unfold divN; rw [if_pos hcz]
      have hl0 : y.num.length ≤ 0 := by rw [hyc, hcz, limbs_zero]; exact Nat.le_refl _
      obtain ⟨r0, r1, r2⟩ := (BR.out.after KW.out).cells3
      have f0 := (BR.out.after KW.out).frozen 0
      have f1 := (BR.out.after KW.out).frozen 1
      have f2 := (BR.out.after KW.out).frozen 2
      have BW5 := Lib.hid (HB0.out.trans (KW.out.mono HB0.out.size))
      clear hcz hyc hpc1
      go_wp2_with fail
      refine bodyPost_ret (v := .tuple #[.agg #[.bool false, .slice none 0 0, .slice none 0 0], .int .i64 2]) (by simp [results, Try.results28, go_sem, r0, r1, r2]) rfl ?_
      rw [hspec.out]
      exact ⟨_, rfl, IsF.zero _, ((BW5.out.setCell (p := ⟨w.heap.size + 2, 0, none⟩) (by simp) _).setCell (p := ⟨w.heap.size + 2, 1, none⟩) (by simp) _).setCell (p := ⟨w.heap.size + 2, 2, none⟩) (by simp) _⟩
    have hcz' := hcz
    have hcp : 0 < val y.num := by omega
    have hylen : 0 < y.num.length := by rw [hyc]; exact limbs_len_pos hcp
    clear hcz hyc
    have ex := hv'.out.1
    have ey := hv'.out.2
    have ok1 := ex.2.2
    have ok2 := ey.2.2
    obtain ⟨va', vb', e1, ha', hb'⟩ := K1.out
    obtain ⟨rfl, rfl⟩ : va = va' ∧ vb = vb' := by simpa using e1
    obtain ⟨vc', vd', e2, hc', hd'⟩ := K2.out
    obtain ⟨rfl, rfl⟩ : Value.slice pc y.num.length cpc = vc' ∧ vd = vd' := by simpa using e2
    have ca := ex.1
    have cb := ex.2.1
    have cc := ey.1
    have cd := ey.2.1
    unfold Canon at ca cb cc cd
    rw [ca] at ha'
    rw [cb] at hb'
    replace hc' : Sl w1 (.slice pc y.num.length cpc) (limbs (val y.num)) := by rw [← cc]; exact hc'
    rw [cd] at hd'
    have A1 := Lib.hid ha'
    have A2 := Lib.hid hb'
    have A3 := Lib.hid hc'
    have A4 := Lib.hid hd'
    have o1 := ok1.n32
    have o2 := ok1.d32
    have o3 := ok2.n32
    have o4 := ok2.d32
    have o5 := ok1.pos
    have o6 := ok2.pos
    have hspec : Hid (opF divN x y = made (!(x.neg == y.neg)) (val x.num * val y.den) (val x.den * val y.num)) := by show _ = _; rw [opF_yes hv'.out]; unfold divN; rw [if_neg hcz']
    generalize hoo : opF divN x y = o at *
    clear hoo
    clear e1 e2 ha' hb' hc' hd' ca cb cc cd ex ey ok1 ok2 K1 K2
    have BRX := Lib.hid (BR.out.after KW.out)
    generalize x.neg = n1 at *
    generalize y.neg = n2 at *
    generalize val x.num = a at *
    generalize val x.den = b at *
    generalize val y.num = c at hspec o3 o4 A3 hcz' hcp
    generalize val y.den = d at *
    have l1 : Hid ((limbs (a * d)).length ≤ 1000000) := Nat.le_trans (limbs_mul_len _ _) (by omega)
    have l2 : Hid ((limbs (b * c)).length ≤ 1000000) := Nat.le_trans (limbs_mul_len _ _) (by omega)
    have hpos : Hid (0 < b * c) := Nat.mul_pos o5 hcp
    clear hcz'
    go_upto_region 5 with fail
    go_region_held3 (fun w' => w'.cell? ⟨w.heap.size, 0, none⟩ = some (.bool n1) ∧ w'.cell? ⟨w.heap.size, 1, none⟩ = some va ∧ w'.cell? ⟨w.heap.size, 2, none⟩ = some vb ∧
        w'.cell? ⟨w.heap.size + 1, 0, none⟩ = some (.bool n2) ∧ w'.cell? ⟨w.heap.size + 1, 1, none⟩ = some (.slice pc y.num.length cpc) ∧ w'.cell? ⟨w.heap.size + 1, 2, none⟩ = some vd)
      (first | (refine keep6s ?_ ?_ s6; omega; omega) | go_keep | (exact s6) | (exact s5) | (exact s4) | (exact s3))
      (first
       | (go_at_call 49; refine (reduced_o _ _).mono ?_; rintro e w3 ⟨g, rfl, hg, hb3⟩; have s3 := keep6 hb3 c0' c1' c2' d0' d1' d2')
       | (go_at_call_of 68 va; refine (times_n _ va vd a d ?_ ?_ ?_ ?_).mono ?_; exact Sl.after (w := w1.drew) A1.out hb3; exact Sl.after (w := w1.drew) A4.out hb3; omega; omega; rintro e w4 ⟨vp, rfl, hp, hb4⟩; have s4 := keep6' hb4 s3)
       | (go_at_call_of 68 vb; refine (times_n _ vb (.slice pc y.num.length cpc) b c ?_ ?_ ?_ ?_).mono ?_; exact (Sl.after (w := w1.drew) A2.out hb3).after hb4; exact (Sl.after (w := w1.drew) A3.out hb3).after hb4; omega; omega; rintro e w5 ⟨vq, rfl, hq, hb5⟩; have s5 := keep6' hb5 s4)
       | (go_at_call 92; refine (close_c w1 _ (w.heap.size + 2) g w.heap.size (w.heap.size + 1) vp vq (.bool n1) va vb (.bool n2) (.slice pc y.num.length cpc) vd (!(n1 == n2)) (a * d) (b * c) o ?_ ?_ ?_ ?_ ?_ ?_ ?_ ?_ ?_ ?_).mono ?_; exact hspec.out; exact hp.after hb5; exact hq; exact hpos.out; exact keep_cell hb5 (keep_cell hb4 hg); exact l1.out; exact l2.out; exact below_of_drew (hb3.trans ((hb4.trans (hb5.mono hb4.size)).mono hb3.size)); exact BRX.out; exact s5; rintro e w6 ⟨p, cp, q, cq, rfl, s6, r0, r1, r2, f0, f1, f2, hfin⟩))
    obtain ⟨HVA, HVB, BX5, hbb⟩ := hfin.out
    have BW5 := HB0.out.trans ((KW.out.trans (hbb.mono KW.out.size)).mono HB0.out.size)
    have HVA := Lib.hid HVA
    have HVB := Lib.hid HVB
    have BX5 := Lib.hid BX5
    have BW5 := Lib.hid BW5
    clear hfin hb3 hb4 hb5 hbb s3 s4 s5 s6 hp hq hg
    go_wp2_with fail
    refine bodyPost_ret (v := .tuple #[.agg #[.bool o.1.neg, .slice p o.1.num.length cp, .slice q o.1.den.length cq], .int .i64 o.2]) (by simp [results, Try.results28, go_sem, r0, r1, r2]) rfl ?_
    exact ⟨_, rfl, IsF.result BX5.out (fun _ h => by cases h) (fun _ h => by cases h) HVA.out HVB.out, ((BW5.out.setCell (p := ⟨w.heap.size + 2, 0, none⟩) (by simp) _).setCell (p := ⟨w.heap.size + 2, 1, none⟩) (by simp) _).setCell (p := ⟨w.heap.size + 2, 2, none⟩) (by simp) _⟩
  · have hv' := Lib.hid hv
    clear hv
    go_enter Try.func28, Try.ntmps28
    go_upto_region 1 with fail
    rw [← hW]
    clear hW
    go_wp2_with fail
    refine (both_c _ _ _ _ _ H1.out H2.out).mono ?_
    intro e w1 hr
    obtain ⟨rfl, hb1⟩ := hr.no hv'.out
    have bx5 := BR.out.after hb1
    obtain ⟨r0, r1, r2⟩ := bx5.cells3
    have f0 := bx5.frozen 0
    have f1 := bx5.frozen 1
    have f2 := bx5.frozen 2
    have BW5 := Lib.hid (HB0.out.trans (hb1.mono HB0.out.size))
    clear hr hb1 c0 c1 c2 d0 d1 d2 H1 H2 bx5
    go_wp2_with fail
    refine bodyPost_ret (v := .tuple #[.agg #[.bool false, .slice none 0 0, .slice none 0 0], .int .i64 1]) (by simp [results, Try.results28, go_sem, r0, r1, r2]) rfl ?_
    rw [opF_no (g := divN) hv'.out]
    exact ⟨_, rfl, IsF.zero _, ((BW5.out.setCell (p := ⟨w.heap.size + 2, 0, none⟩) (by simp) _).setCell (p := ⟨w.heap.size + 2, 1, none⟩) (by simp) _).setCell (p := ⟨w.heap.size + 2, 2, none⟩) (by simp) _⟩
end Go.Proofs.Ytaojdlcailpheaa

namespace Go.Proofs.Ytaojdlcailpheaa
open Go.RowKit

/-- The sign of a number. -/
def sgnZ (n : Int) : Int := if n < 0 then -1 else if n = 0 then 0 else 1
theorem sgnZ_b (n : Int) : -1 ≤ sgnZ n ∧ sgnZ n ≤ 1 := by unfold sgnZ; split; omega; split <;> omega

set_option maxHeartbeats 400000 in
theorem sign_c (w : World) (n : Int) : Calls Try.prog 100 #[.int .i64 n] w fun e w' => e = .returned (.int .i64 (sgnZ n)) ∧ w' = w := by
  rcases Int.lt_trichotomy n 0 with h | h | h
  · go_enter Try.func100, Try.ntmps100
    go_wp2
    go_ret
    refine ⟨ret_int ?_, rfl⟩
    unfold sgnZ; (repeat' split) <;> omega
  · subst h
    go_enter Try.func100, Try.ntmps100
    go_wp2
    go_ret
    exact ⟨rfl, rfl⟩
  · go_enter Try.func100, Try.ntmps100
    go_wp2
    go_ret
    refine ⟨ret_int ?_, rfl⟩
    unfold sgnZ; (repeat' split) <;> omega

/-- How two valid fractions compare. -/
def ordN (n1 : Bool) (a b : Nat) (n2 : Bool) (c d : Nat) : Int :=
  if n1 = n2 then (if n1 = true then - (if a * d < c * b then -1 else if a * d = c * b then 0 else 1) else (if a * d < c * b then -1 else if a * d = c * b then 0 else 1)) else if n1 = true then -1 else 1
theorem ordN_eq {n1 n2 : Bool} {a b c d : Nat} {r : Int} (h : CmpR (limbs (a * d)) (limbs (c * b)) r) (hn : n1 = n2) : ordN n1 a b n2 c d = if n1 = true then - sgnZ r else sgnZ r := by
  have h1 := h.lt
  have h2 := h.eq
  unfold ordN sgnZ
  rw [if_pos hn]
  by_cases g1 : r < 0
  · have g2 := h1.1 g1
    simp [g1, g2]
  · have g2 : ¬ a * d < c * b := fun e => g1 (h1.2 e)
    by_cases g3 : r = 0
    · have g4 := h2.1 g3
      simp [g3, g4]
    · have g4 : ¬ a * d = c * b := fun e => g3 (h2.2 e)
      simp [g1, g2, g3, g4]

set_option maxRecDepth 100000 in
set_option maxHeartbeats 1000000 in
theorem order_c (w : World) (v u : Value) (n1 n2 : Bool) (a b c d : Nat) (h : IsF w v (fr n1 a b)) (k : IsF w u (fr n2 c d))
    (la : (limbs a).length ≤ 1000) (lb : (limbs b).length ≤ 1000) (lc : (limbs c).length ≤ 1000) (ld : (limbs d).length ≤ 1000) :
    Calls Try.prog 72 #[v, u] w fun e w' => e = .returned (.int .i64 (ordN n1 a b n2 c d)) ∧ Below w.heap.size w w' := by
  obtain ⟨va, vb, rfl, ha', hb'⟩ := h
  obtain ⟨vc, vd, rfl, hc', hd'⟩ := k
  simp only [fr] at ha' hb' hc' hd'
  simp only [fr]
  obtain ⟨W0, hW, bx, by', hsz, hb0⟩ := start2 w #[.bool n1, va, vb] #[.bool n2, vc, vd] 25
  obtain ⟨c0, c1, c2⟩ := bx.cells3
  obtain ⟨d0, d1, d2⟩ := by'.cells3
  have H1 := Lib.hid (ha'.after hb0)
  have H2 := Lib.hid (hb'.after hb0)
  have H3 := Lib.hid (hc'.after hb0)
  have H4 := Lib.hid (hd'.after hb0)
  have HB0 := Lib.hid hb0
  clear ha' hb' hc' hd' bx by' hb0
  by_cases hn : n1 = n2
  · subst hn
    go_enter Try.func72, Try.ntmps72
    go_upto_region 1 with fail
    rw [← hW]
    clear hW
    go_upto_region 2 with fail
    go_region_held3 (fun w' => w'.cell? ⟨w.heap.size, 1, none⟩ = some va ∧ w'.cell? ⟨w.heap.size + 1, 2, none⟩ = some vd ∧ w'.cell? ⟨w.heap.size + 1, 1, none⟩ = some vc ∧ w'.cell? ⟨w.heap.size, 2, none⟩ = some vb)
      (first
       | go_keep
       | (exact ⟨keep_cell hb1 c1, keep_cell hb1 d2, keep_cell hb1 d1, keep_cell hb1 c2⟩)
       | (exact ⟨keep_cell hb2 (keep_cell hb1 c1), keep_cell hb2 (keep_cell hb1 d2), keep_cell hb2 (keep_cell hb1 d1), keep_cell hb2 (keep_cell hb1 c2)⟩))
      (first
       | (go_at_call_of 68 va; refine (times_n _ va vd a d ?_ ?_ ?_ ?_).mono ?_; exact H1.out; exact H4.out; omega; omega; rintro e w1 ⟨vp, rfl, hp, hb1⟩)
       | (go_at_call_of 68 vc; refine (times_n _ vc vb c b ?_ ?_ ?_ ?_).mono ?_; exact Sl.after (w := W0.drew) H3.out hb1; exact Sl.after (w := W0.drew) H2.out hb1; omega; omega; rintro e w2 ⟨vq, rfl, hq, hb2⟩)
       | (go_at_call 100; refine (sign_c _ _).mono ?_; rintro e w4 ⟨rfl, rfl⟩)
       | (go_at_call 82; refine (compare_c _ vp vq (limbs (a * d)) (limbs (c * b)) (hp.after hb2) hq).mono ?_; rintro e w3 ⟨r, rfl, hr, n3, rfl⟩))
    have hbW : Below W0.heap.size W0 w2 := below_of_drew (hb1.trans (hb2.mono hb1.size))
    have x0 := keep_cell hbW c0
    have hfr : Hid (Below w.heap.size w w2) := HB0.out.trans (hbW.mono HB0.out.size)
    have hspec := Lib.hid (ordN_eq (n1 := n1) (n2 := n1) hr rfl)
    obtain ⟨s, hs⟩ : ∃ s, sgnZ r = s := ⟨_, rfl⟩
    have hs1 := sgnZ_b r
    rw [hs] at hspec hs1 ⊢
    obtain ⟨hs1, hs2⟩ := hs1
    clear hs hr hb1 hb2 hp hq c0 c1 c2 d0 d1 d2 H1 H2 H3 H4 hbW
    cases n1 with
    | true =>
      go_wp2_with fail
      go_ret
      exact ⟨ret_int (by rw [hspec.out]; rfl), hfr.out.trans (below_drewN _ _ _)⟩
    | false =>
      go_wp2_with fail
      go_ret
      exact ⟨ret_int (by rw [hspec.out]; rfl), hfr.out.trans (below_drewN _ _ _)⟩
  · have hn' := Lib.hid hn
    go_enter Try.func72, Try.ntmps72
    go_upto_region 1 with fail
    rw [← hW]
    clear hW
    cases n1 <;> cases n2 <;> first | exact absurd rfl hn | skip
    all_goals clear hn
    · go_wp2_with fail
      go_ret
      exact ⟨ret_int rfl, HB0.out⟩
    · go_wp2_with fail
      go_ret
      exact ⟨ret_int rfl, HB0.out⟩

/-- What Cmp returns. -/
noncomputable def cmpF (x y : F) : Int × Int := open Classical in if ValidF x ∧ ValidF y then (ordN x.neg (val x.num) (val x.den) y.neg (val y.num) (val y.den), 0) else (0, 1)
theorem cmpF_yes {x y : F} (h : ValidF x ∧ ValidF y) : cmpF x y = (ordN x.neg (val x.num) (val x.den) y.neg (val y.num) (val y.den), 0) := by unfold cmpF; rw [if_pos h]
theorem cmpF_no {x y : F} (h : ¬ (ValidF x ∧ ValidF y)) : cmpF x y = (0, 1) := by unfold cmpF; rw [if_neg h]

set_option maxRecDepth 100000 in
set_option maxHeartbeats 1000000 in
theorem Cmp_c (w : World) (v u : Value) (x y : F) (h : IsF w v x) (k : IsF w u y) :
    Calls Try.prog 33 #[v, u] w fun e w' => e = .returned (.tuple #[.int .i64 (cmpF x y).1, .int .i64 (cmpF x y).2]) ∧ Below w.heap.size w w' := by
  have HX := h
  have HY := k
  obtain ⟨va, vb, rfl, _, _⟩ := h
  obtain ⟨vc, vd, rfl, _, _⟩ := k
  obtain ⟨W0, hW, bx, by', hsz, hb0⟩ := start2 w #[.bool x.neg, va, vb] #[.bool y.neg, vc, vd] 25
  obtain ⟨c0, c1, c2⟩ := bx.cells3
  obtain ⟨d0, d1, d2⟩ := by'.cells3
  have H1 := Lib.hid (HX.after hb0)
  have H2 := Lib.hid (HY.after hb0)
  have HB0 := Lib.hid hb0
  have BX := Lib.hid bx
  have BY := Lib.hid by'
  clear HX HY bx by' hb0
  by_cases hv : ValidF x ∧ ValidF y
  · have hv' := Lib.hid hv
    have hsp := Lib.hid (cmpF_yes hv)
    clear hv
    go_enter Try.func33, Try.ntmps33
    go_upto_region 1 with fail
    rw [← hW]
    clear hW
    go_wp2_with fail
    refine (both_c _ _ _ _ _ H1.out H2.out).mono ?_
    intro e w1 hr
    obtain ⟨rfl, hb1⟩ := hr.yes hv'.out
    obtain ⟨c0', c1', c2'⟩ := (BX.out.after hb1).cells3
    obtain ⟨d0', d1', d2'⟩ := (BY.out.after hb1).cells3
    have K1 := Lib.hid (H1.out.after hb1)
    have K2 := Lib.hid (H2.out.after hb1)
    have KW := Lib.hid hb1
    clear hr hb1 c0 c1 c2 d0 d1 d2 H1 H2
    go_wp2_with fail
    have ex := hv'.out.1
    have ey := hv'.out.2
    have K1' := K1.out
    have K2' := K2.out
    rw [ex.eq] at K1'
    rw [ey.eq] at K2'
    have ok1 := ex.2.2
    have ok2 := ey.2.2
    refine (order_c w1 _ _ x.neg y.neg (val x.num) (val x.den) (val y.num) (val y.den) (by simpa only [fr] using K1') (by simpa only [fr] using K2') (by have := ok1.n32; omega) (by have := ok1.d32; omega) (by have := ok2.n32; omega) (by have := ok2.d32; omega)).mono ?_
    rintro e w5 ⟨rfl, hb5⟩
    have hbb := Lib.hid (HB0.out.trans ((KW.out.trans (hb5.mono KW.out.size)).mono HB0.out.size))
    clear hb5 ex ey K1' K2' ok1 ok2
    go_wp2_with fail
    go_ret2
    exact ⟨by rw [hsp.out]; rfl, hbb.out⟩
  · have hv' := Lib.hid hv
    have hsp := Lib.hid (cmpF_no hv)
    clear hv
    go_enter Try.func33, Try.ntmps33
    go_upto_region 1 with fail
    rw [← hW]
    clear hW
    go_wp2_with fail
    refine (both_c _ _ _ _ _ H1.out H2.out).mono ?_
    intro e w1 hr
    obtain ⟨rfl, hb1⟩ := hr.no hv'.out
    have hbb := Lib.hid (HB0.out.trans (hb1.mono HB0.out.size))
    clear hr hb1 c0 c1 c2 d0 d1 d2 H1 H2
    go_wp2_with fail
    go_ret2
    exact ⟨by rw [hsp.out]; rfl, hbb.out⟩
end Go.Proofs.Ytaojdlcailpheaa
