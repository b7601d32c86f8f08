/- Walks of package tails: whole, sign, times, sum.
   Walks of package tails: sum, choose.
   Walks of package tails: trials, Choose, fraction, rate, checked. -/
import Derived.Test.YtjjefdkadgkhfaaK08
import Derived.Test.YtjjefdkadgkhfaaK09
set_option linter.unusedVariables false
namespace Go.Proofs.Ytjjefdkadgkhfaa
open Go.RowKit

theorem wrap_in {z : Int} (h0 : -9223372036854775808 ≤ z) (h1 : z ≤ 9223372036854775807) : IntKind.i64.wrap z = z := by rw [IntKind.wrap_i64]; omega
theorem end_box {w1 : World} {R : Nat} {x0 x1 x2 y0 y1 y2 : Value} {t : TypeId} (hR : Box w1 R #[x0, x1, x2] t) : Box (((w1.setCell ⟨R, 0, none⟩ y0).setCell ⟨R, 1, none⟩ y1).setCell ⟨R, 2, none⟩ y2) R #[y0, y1, y2] t := by
  have := ((hR.set 0 y0).set 1 y1).set 2 y2
  simpa using this
theorem far_box {w1 : World} {R S : Nat} {cs : Array Value} {y0 y1 y2 : Value} {t : TypeId} (hR : Box w1 S cs t) (h : S ≠ R) : Box (((w1.setCell ⟨R, 0, none⟩ y0).setCell ⟨R, 1, none⟩ y1).setCell ⟨R, 2, none⟩ y2) S cs t :=
  ((hR.far (p := ⟨R, 0, none⟩) h _).far (p := ⟨R, 1, none⟩) h _).far (p := ⟨R, 2, none⟩) h _
/-- The cells of a struct just written, behind a later block. -/
theorem end_cells {w1 : World} {R : Nat} {x0 x1 x2 y0 y1 y2 : Value} {t : TypeId} (hR : Box w1 R #[x0, x1, x2] t) (o : Obj) :
    ((((w1.setCell ⟨R, 0, none⟩ y0).setCell ⟨R, 1, none⟩ y1).setCell ⟨R, 2, none⟩ y2).alloc o).cell? ⟨R, 0, none⟩ = some y0 ∧
    ((((w1.setCell ⟨R, 0, none⟩ y0).setCell ⟨R, 1, none⟩ y1).setCell ⟨R, 2, none⟩ y2).alloc o).cell? ⟨R, 1, none⟩ = some y1 ∧
    ((((w1.setCell ⟨R, 0, none⟩ y0).setCell ⟨R, 1, none⟩ y1).setCell ⟨R, 2, none⟩ y2).alloc o).cell? ⟨R, 2, none⟩ = some y2 := by
  have h : Box (((w1.setCell ⟨R, 0, none⟩ y0).setCell ⟨R, 1, none⟩ y1).setCell ⟨R, 2, none⟩ y2) R #[y0, y1, y2] t := by
    have := ((hR.set 0 y0).set 1 y1).set 2 y2
    simpa using this
  exact (h.alloc o).cells3
/-- The end of a function that returns a fraction in a result struct. -/
theorem retF1_end {w w1 : World} {R : Nat} {x : F} {n0 : Bool} {x1 x2 va vb : Value} {t : TypeId} (hb : Below w.heap.size w w1) (hR : Box w1 R #[.bool n0, x1, x2] t) (hx1 : ∀ x, x1 ≠ .int .u32 x) (hx2 : ∀ x, x2 ≠ .int .u32 x) (hle : w.heap.size ≤ R) (h1 : Sl w1 va x.num) (h2 : Sl w1 vb x.den) :
    RetF1 w x (.returned (.agg #[.bool x.neg, va, vb])) (((w1.setCell ⟨R, 0, none⟩ (.bool x.neg)).setCell ⟨R, 1, none⟩ va).setCell ⟨R, 2, none⟩ vb) :=
  ⟨_, rfl, IsF.result hR hx1 hx2 h1 h2, ((hb.setCell hle _).setCell hle _).setCell hle _⟩
theorem RetF1.alloc {w w1 : World} {x : F} {e : Ending} (h : RetF1 w x e w1) (o : Obj) : RetF1 w x e (w1.alloc o) := by
  obtain ⟨v, h1, h2, h3⟩ := h
  exact ⟨v, h1, h2.alloc o, h3.alloc h3.size o⟩

set_option maxRecDepth 100000 in
set_option maxHeartbeats 1000000 in
theorem whole_c (w : World) (n : Nat) (hn : n < 9223372036854775808) : Calls Try.prog 73 #[.int .i64 (n : Int)] w (RetF1 w (Wh n)) := by
  obtain ⟨W0, hW⟩ : ∃ W0, W0 = w.alloc (.cells #[.bool false, .slice none 0 0, .slice none 0 0] 30) := ⟨_, rfl⟩
  have hb0 : Below w.heap.size w W0 := hW ▸ (Below.refl w.heap.size w).alloc (Nat.le_refl _) _
  have br : Box W0 w.heap.size #[.bool false, .slice none 0 0, .slice none 0 0] 30 := hW ▸ Box.new w _ _
  have hl : Hid ((limbs n).length ≤ 32) := by have := limbs_mid (n := n) (by omega); show _ ≤ _; omega
  have HB0 := Lib.hid hb0
  have BR := Lib.hid br
  clear hb0 br
  go_enter Try.func73, Try.ntmps73
  go_upto_region 1 with fail
  rw [← hW]
  clear hW
  go_wp2_with fail
  refine (Of_c _ n 1 (by omega) (by omega) (by omega) (by omega)).mono ?_
  rw [of_wh hl.out]
  rintro e w1 ⟨v, rfl, hv, hb1⟩
  obtain ⟨va, vb, rfl, h1, h2⟩ := hv
  have bx1 := BR.out.after hb1
  obtain ⟨r0, r1, r2⟩ := bx1.cells3
  have f0 := bx1.frozen 0
  have f1 := bx1.frozen 1
  have f2 := bx1.frozen 2
  have hlt := bx1.lt
  have BX1 := Lib.hid bx1
  have HV1 := Lib.hid h1
  have HV2 := Lib.hid h2
  obtain ⟨p, cp, rfl, _, _⟩ := h1.shape
  obtain ⟨q, cq, rfl, _, _⟩ := h2.shape
  have HB1 := Lib.hid (HB0.out.trans (hb1.mono HB0.out.size))
  clear bx1 h1 h2 hb1
  go_wp2_with fail
  obtain ⟨e0, e1, e2⟩ := end_cells BX1.out (y0 := .bool (Wh n).neg) (y1 := .slice p (Wh n).num.length cp) (y2 := .slice q (Wh n).den.length cq) (.cells #[.bool (Wh n).neg, .slice p (Wh n).num.length cp, .slice q (Wh n).den.length cq] 30)
  refine bodyPost_ret (v := .agg #[.bool (Wh n).neg, .slice p (Wh n).num.length cp, .slice q (Wh n).den.length cq]) (by simp [results, Try.results73, go_sem, e0, e1, e2]) rfl ?_
  exact (retF1_end HB1.out BX1.out (fun _ h => by cases h) (fun _ h => by cases h) (Nat.le_refl _) HV1.out HV2.out).alloc _

set_option maxRecDepth 100000 in
set_option maxHeartbeats 1000000 in
theorem tsign_c (w : World) (v u : Value) (x y : F) (h : IsF w v x) (k : IsF w u y) :
    Calls Try.prog 85 #[v, u] w fun e w' => e = .returned (.int .i64 (cmpF x y).1) ∧ Below w.heap.size w w' := by
  have HX := h
  have HY := k
  obtain ⟨va, vb, rfl, _, _⟩ := h
  obtain ⟨vc, vd, rfl, _, _⟩ := k
  obtain ⟨W0, hW, bx, by', hsz, hb0⟩ := start2 w #[.bool x.neg, va, vb] #[.bool y.neg, vc, vd] 30
  obtain ⟨c0, c1, c2⟩ := bx.cells3
  obtain ⟨d0, d1, d2⟩ := by'.cells3
  have H1 := Lib.hid (HX.after hb0)
  have H2 := Lib.hid (HY.after hb0)
  have HB0 := Lib.hid hb0
  clear HX HY bx by' hb0
  go_enter Try.func85, Try.ntmps85
  go_upto_region 1 with fail
  rw [← hW]
  clear hW
  go_wp2_with fail
  refine (Cmp_c _ _ _ _ _ H1.out H2.out).mono ?_
  rintro e w1 ⟨rfl, hb1⟩
  have KW := Lib.hid (HB0.out.trans (hb1.mono HB0.out.size))
  obtain ⟨r, hr⟩ : ∃ r, cmpF x y = r := ⟨_, rfl⟩
  rw [hr]
  have HR := Lib.hid hr
  clear hr hb1
  go_wp2_with fail
  go_ret
  exact ⟨by rw [HR.out]; rfl, KW.out⟩

/-- The product of numbers. -/
def prod : List Nat → Nat
  | [] => 1
  | a :: l => a * prod l
theorem prod_snoc (l : List Nat) (a : Nat) : prod (l ++ [a]) = prod l * a := by
  induction l with
  | nil => simp [prod]
  | cons x l ih => simp only [List.cons_append, prod, ih, Nat.mul_assoc]
theorem prod_take (l : List Nat) (i : Nat) (h : i < l.length) : prod (l.take (i + 1)) = prod (l.take i) * l[i] := by
  rw [List.take_add_one, List.getElem?_eq_getElem h]
  exact prod_snoc _ _

set_option maxRecDepth 100000 in
set_option maxHeartbeats 2000000 in
theorem times_t (w : World) (v : Value) (ns : List Nat) (h : SlF w v (ns.map Wh)) (h0 : 0 < ns.length) (hl : ns.length ≤ 100) (hn : ∀ n ∈ ns, (limbs n).length ≤ 32) (hp : ∀ i, i ≤ ns.length → (limbs (prod (ns.take i))).length ≤ 32) :
    Calls Try.prog 71 #[v] w (RetF1 w (Wh (prod ns))) := by
  have hh := h
  obtain ⟨b, cap, rfl, hc1, hc2, hcs⟩ := h
  have hlen : (ns.map Wh).length = ns.length := List.length_map _
  have hbl' := hh.lt (by omega)
  rw [hlen] at hc1
  rw [hlen]
  obtain ⟨W0, hW⟩ : ∃ W0, W0 = w.alloc (.cells #[.bool false, .slice none 0 0, .slice none 0 0] 30) := ⟨_, rfl⟩
  have hb0 : Below w.heap.size w W0 := hW ▸ (Below.refl w.heap.size w).alloc (Nat.le_refl _) _
  have br : Box W0 w.heap.size #[.bool false, .slice none 0 0, .slice none 0 0] 30 := hW ▸ Box.new w _ _
  have HB0 := Lib.hid hb0
  have BR := Lib.hid br
  have HP := Lib.hid hp
  have HN := Lib.hid hn
  have HCS := Lib.hid hcs
  clear hb0 br hh hlen hp hn hcs
  go_enter Try.func71, Try.ntmps71
  go_upto_region 1 with fail
  rw [← hW]
  clear hW
  go_wp2_with fail
  refine (whole_c _ 1 (by omega)).mono ?_
  rintro e w1 ⟨v1, rfl, hv1, hb1⟩
  obtain ⟨va, vb, rfl, h1, h2⟩ := hv1
  have bx1 := BR.out.after hb1
  have hlt0 := bx1.lt
  have BX1 := Lib.hid bx1
  have HV1 := Lib.hid h1
  have HV2 := Lib.hid h2
  obtain ⟨p, cp, rfl, _, _⟩ := h1.shape
  obtain ⟨q, cq, rfl, _, _⟩ := h2.shape
  have HB1 := Lib.hid (HB0.out.trans (hb1.mono HB0.out.size))
  clear bx1 h1 h2 hb1
  go_wp2_with fail
  go_loopg [9] (ns.length) (fun g t wx => ∃ (i : Nat) (va vb : Value), i ≤ ns.length ∧ g = ns.length - i ∧ t = .int .i64 (i : Int) ∧ Hid (Box wx w.heap.size #[.bool false, .slice none 0 0, .slice none 0 0] 30) ∧
    Box wx w1.heap.size #[.bool false, va, vb] 30 ∧ Hid (IsF wx (.agg #[.bool false, va, vb]) (Wh (prod (ns.take i)))) ∧ Below w.heap.size w wx)
  case atStart =>
    have hb := ((Below.refl w1.heap.size w1).alloc (Nat.le_refl _) (.cells #[.bool (Wh 1).neg, .slice p (Wh 1).num.length cp, .slice q (Wh 1).den.length cq] 30))
    refine ⟨0, .slice p (Wh 1).num.length cp, .slice q (Wh 1).den.length cq, Nat.zero_le _, rfl, rfl, BX1.out.after hb, Box.new _ _ _, ⟨_, _, rfl, HV1.out.after hb, HV2.out.after hb⟩, HB1.out.trans (hb.mono HB1.out.size)⟩
  case round =>
    obtain ⟨i, va, vb, hile, rfl, rfl, hR, hX, hP, hbl⟩ := hrel
    clear HV1 HV2 HB1 BX1 BR HB0
    obtain ⟨_, h1, h2⟩ := hP.out.parts
    obtain ⟨pa, ca, rfl, _, _⟩ := h1.shape
    obtain ⟨pb, cb, rfl, _, _⟩ := h2.shape
    by_cases hlt : i < ns.length
    · obtain ⟨vc, vd, g0, g1, g2, hs1, hs2⟩ := HCS.out i (Wh ns[i]) (by rw [List.getElem?_map, List.getElem?_eq_getElem hlt]; rfl)
      have hc0 := (hbl.cell (p := ⟨b, i * 3, none⟩) hbl').trans g0
      have hc1' := (hbl.cell (p := ⟨b, i * 3 + 1, none⟩) hbl').trans g1
      have hc2' := (hbl.cell (p := ⟨b, i * 3 + 2, none⟩) hbl').trans g2
      obtain ⟨x0, x1, x2⟩ := hX.cells3
      have hlx := hX.lt
      obtain ⟨pc, cc, rfl, _, _⟩ := hs1.shape
      obtain ⟨pd, cd, rfl, _, _⟩ := hs2.shape
      have hQ := hs1.after hbl
      have hQ2 := hs2.after hbl
      have HQ := Lib.hid (hQ.alloc (.cells #[.bool (Wh ns[i]).neg, .slice pc (Wh ns[i]).num.length cc, .slice pd (Wh ns[i]).den.length cd] 30))
      have HQ2 := Lib.hid (hQ2.alloc (.cells #[.bool (Wh ns[i]).neg, .slice pc (Wh ns[i]).num.length cc, .slice pd (Wh ns[i]).den.length cd] 30))
      have HP' := Lib.hid (hP.out.alloc (.cells #[.bool (Wh ns[i]).neg, .slice pc (Wh ns[i]).num.length cc, .slice pd (Wh ns[i]).den.length cd] 30))
      have hbl2 := hbl.alloc hbl.size (.cells #[.bool (Wh ns[i]).neg, .slice pc (Wh ns[i]).num.length cc, .slice pd (Wh ns[i]).den.length cd] 30)
      have HX2 := Lib.hid (hX.alloc (.cells #[.bool (Wh ns[i]).neg, .slice pc (Wh ns[i]).num.length cc, .slice pd (Wh ns[i]).den.length cd] 30))
      have HR2 := Lib.hid (hR.out.alloc (.cells #[.bool (Wh ns[i]).neg, .slice pc (Wh ns[i]).num.length cc, .slice pd (Wh ns[i]).den.length cd] 30))
      have HBL := Lib.hid hbl2
      have hsp : Hid (opF mulN (Wh (prod (ns.take i))) (Wh ns[i]) = (Wh (prod (ns.take (i + 1))), 0)) := by
        show _ = _
        rw [prod_take ns i hlt]
        exact mul_wh (HP.out i hile) (HN.out _ (List.getElem_mem hlt)) (by rw [← prod_take ns i hlt]; exact HP.out (i + 1) hlt)
      clear g0 g1 g2 hs1 hs2 hQ hQ2 hbl2 hX hR hP h1 h2
      go_wp2_with fail
      refine (Mul_c _ _ _ _ _ HP'.out ⟨_, _, rfl, HQ.out, HQ2.out⟩).mono ?_
      rw [hsp.out]
      rintro e w2 ⟨v2, rfl, hv2, hb2⟩
      obtain ⟨va2, vb2, rfl, h1, h2⟩ := hv2
      have hX3 := HX2.out.after hb2
      obtain ⟨x0, x1, x2⟩ := hX3.cells3
      have f0 := hX3.frozen 0
      have f1 := hX3.frozen 1
      have f2 := hX3.frozen 2
      have HX3 := Lib.hid hX3
      have HR3 := Lib.hid (HR2.out.after hb2)
      have HB3 := Lib.hid (HBL.out.trans (hb2.mono HBL.out.size))
      obtain ⟨p2, cp2, rfl, _, _⟩ := h1.shape
      obtain ⟨q2, cq2, rfl, _, _⟩ := h2.shape
      have HV1 := Lib.hid h1
      have HV2 := Lib.hid h2
      clear hc0 hc1' hc2' h1 h2 hb2 HX2 HR2 HBL HP' HQ HQ2 hsp hX3
      go_wp2_with fail
      go_roundg (ns.length - (i + 1))
      case measure => omega
      case rel => exact ⟨i + 1, .slice p2 (Wh (prod (ns.take (i + 1)))).num.length cp2, .slice q2 (Wh (prod (ns.take (i + 1)))).den.length cq2, hlt, rfl, by go_num, far_box HR3.out (by omega), end_box HX3.out, IsF.result HX3.out (fun _ h => by cases h) (fun _ h => by cases h) HV1.out HV2.out, ((HB3.out.setCell (p := ⟨w1.heap.size, 0, none⟩) (by simp; omega) _).setCell (p := ⟨w1.heap.size, 1, none⟩) (by simp; omega) _).setCell (p := ⟨w1.heap.size, 2, none⟩) (by simp; omega) _⟩
    · obtain rfl : i = ns.length := by omega
      obtain ⟨x0, x1, x2⟩ := hX.cells3
      obtain ⟨r0, r1, r2⟩ := hR.out.cells3
      have f0 := hR.out.frozen 0
      have f1 := hR.out.frozen 1
      have f2 := hR.out.frozen 2
      rw [List.take_length] at x1 x2 h1 h2
      have HV1 := Lib.hid h1
      have HV2 := Lib.hid h2
      have HBL := Lib.hid hbl
      clear h1 h2 hP hbl hX
      go_wp2_with fail
      refine bodyPost_ret (v := .agg #[.bool (Wh (prod ns)).neg, .slice pa (Wh (prod ns)).num.length ca, .slice pb (Wh (prod ns)).den.length cb]) (by simp [results, Try.results71, go_sem, r0, r1, r2]; rfl) rfl ?_
      exact retF1_end (x := Wh (prod ns)) HBL.out hR.out (fun _ h => by cases h) (fun _ h => by cases h) (Nat.le_refl _) HV1.out HV2.out
end Go.Proofs.Ytjjefdkadgkhfaa

namespace Go.Proofs.Ytjjefdkadgkhfaa
open Go.RowKit

/-- The sum of numbers. -/
def sums : List Nat → Nat
  | [] => 0
  | a :: l => a + sums l
theorem sums_snoc (l : List Nat) (a : Nat) : sums (l ++ [a]) = sums l + a := by
  induction l with
  | nil => simp [sums]
  | cons x l ih => simp only [List.cons_append, sums, ih, Nat.add_assoc]
theorem sums_take (l : List Nat) (i : Nat) (h : i < l.length) : sums (l.take (i + 1)) = sums (l.take i) + l[i] := by
  rw [List.take_add_one, List.getElem?_eq_getElem h]
  exact sums_snoc _ _

set_option maxRecDepth 100000 in
set_option maxHeartbeats 2000000 in
theorem tsum_t (w : World) (v : Value) (ns : List Nat) (h : SlF w v (ns.map Wh)) (h0 : 0 < ns.length) (hl : ns.length ≤ 100) (hn : ∀ n ∈ ns, (limbs n).length ≤ 32) (hp : ∀ i, i ≤ ns.length → (limbs (sums (ns.take i))).length ≤ 32) :
    Calls Try.prog 88 #[v] w (RetF1 w (Wh (sums ns))) := by
  have hh := h
  obtain ⟨b, cap, rfl, hc1, hc2, hcs⟩ := h
  have hlen : (ns.map Wh).length = ns.length := List.length_map _
  have hbl' := hh.lt (by omega)
  rw [hlen] at hc1
  rw [hlen]
  obtain ⟨W0, hW⟩ : ∃ W0, W0 = w.alloc (.cells #[.bool false, .slice none 0 0, .slice none 0 0] 30) := ⟨_, rfl⟩
  have hb0 : Below w.heap.size w W0 := hW ▸ (Below.refl w.heap.size w).alloc (Nat.le_refl _) _
  have br : Box W0 w.heap.size #[.bool false, .slice none 0 0, .slice none 0 0] 30 := hW ▸ Box.new w _ _
  have HB0 := Lib.hid hb0
  have BR := Lib.hid br
  have HP := Lib.hid hp
  have HN := Lib.hid hn
  have HCS := Lib.hid hcs
  clear hb0 br hh hlen hp hn hcs
  go_enter Try.func88, Try.ntmps88
  go_upto_region 1 with fail
  rw [← hW]
  clear hW
  go_wp2_with fail
  refine (whole_c _ 0 (by omega)).mono ?_
  rintro e w1 ⟨v1, rfl, hv1, hb1⟩
  obtain ⟨va, vb, rfl, h1, h2⟩ := hv1
  have bx1 := BR.out.after hb1
  have hlt0 := bx1.lt
  have BX1 := Lib.hid bx1
  have HV1 := Lib.hid h1
  have HV2 := Lib.hid h2
  obtain ⟨p, cp, rfl, _, _⟩ := h1.shape
  obtain ⟨q, cq, rfl, _, _⟩ := h2.shape
  have HB1 := Lib.hid (HB0.out.trans (hb1.mono HB0.out.size))
  clear bx1 h1 h2 hb1
  go_wp2_with fail
  go_loopg [9] (ns.length) (fun g t wx => ∃ (i : Nat) (va vb : Value), i ≤ ns.length ∧ g = ns.length - i ∧ t = .int .i64 (i : Int) ∧ Hid (Box wx w.heap.size #[.bool false, .slice none 0 0, .slice none 0 0] 30) ∧
    Box wx w1.heap.size #[.bool false, va, vb] 30 ∧ Hid (IsF wx (.agg #[.bool false, va, vb]) (Wh (sums (ns.take i)))) ∧ Below w.heap.size w wx)
  case atStart =>
    have hb := ((Below.refl w1.heap.size w1).alloc (Nat.le_refl _) (.cells #[.bool (Wh 0).neg, .slice p (Wh 0).num.length cp, .slice q (Wh 0).den.length cq] 30))
    refine ⟨0, .slice p (Wh 0).num.length cp, .slice q (Wh 0).den.length cq, Nat.zero_le _, rfl, rfl, BX1.out.after hb, Box.new _ _ _, ⟨_, _, rfl, HV1.out.after hb, HV2.out.after hb⟩, HB1.out.trans (hb.mono HB1.out.size)⟩
  case round =>
    obtain ⟨i, va, vb, hile, rfl, rfl, hR, hX, hP, hbl⟩ := hrel
    clear HV1 HV2 HB1 BX1 BR HB0
    obtain ⟨_, h1, h2⟩ := hP.out.parts
    obtain ⟨pa, ca, rfl, _, _⟩ := h1.shape
    obtain ⟨pb, cb, rfl, _, _⟩ := h2.shape
    by_cases hlt : i < ns.length
    · obtain ⟨vc, vd, g0, g1, g2, hs1, hs2⟩ := HCS.out i (Wh ns[i]) (by rw [List.getElem?_map, List.getElem?_eq_getElem hlt]; rfl)
      have hc0 := (hbl.cell (p := ⟨b, i * 3, none⟩) hbl').trans g0
      have hc1' := (hbl.cell (p := ⟨b, i * 3 + 1, none⟩) hbl').trans g1
      have hc2' := (hbl.cell (p := ⟨b, i * 3 + 2, none⟩) hbl').trans g2
      obtain ⟨x0, x1, x2⟩ := hX.cells3
      have hlx := hX.lt
      obtain ⟨pc, cc, rfl, _, _⟩ := hs1.shape
      obtain ⟨pd, cd, rfl, _, _⟩ := hs2.shape
      have hQ := hs1.after hbl
      have hQ2 := hs2.after hbl
      have HQ := Lib.hid (hQ.alloc (.cells #[.bool (Wh ns[i]).neg, .slice pc (Wh ns[i]).num.length cc, .slice pd (Wh ns[i]).den.length cd] 30))
      have HQ2 := Lib.hid (hQ2.alloc (.cells #[.bool (Wh ns[i]).neg, .slice pc (Wh ns[i]).num.length cc, .slice pd (Wh ns[i]).den.length cd] 30))
      have HP' := Lib.hid (hP.out.alloc (.cells #[.bool (Wh ns[i]).neg, .slice pc (Wh ns[i]).num.length cc, .slice pd (Wh ns[i]).den.length cd] 30))
      have hbl2 := hbl.alloc hbl.size (.cells #[.bool (Wh ns[i]).neg, .slice pc (Wh ns[i]).num.length cc, .slice pd (Wh ns[i]).den.length cd] 30)
      have HX2 := Lib.hid (hX.alloc (.cells #[.bool (Wh ns[i]).neg, .slice pc (Wh ns[i]).num.length cc, .slice pd (Wh ns[i]).den.length cd] 30))
      have HR2 := Lib.hid (hR.out.alloc (.cells #[.bool (Wh ns[i]).neg, .slice pc (Wh ns[i]).num.length cc, .slice pd (Wh ns[i]).den.length cd] 30))
      have HBL := Lib.hid hbl2
      have hsp : Hid (opF sumN (Wh (sums (ns.take i))) (Wh ns[i]) = (Wh (sums (ns.take (i + 1))), 0)) := by
        show _ = _
        rw [sums_take ns i hlt]
        exact add_wh (HP.out i hile) (HN.out _ (List.getElem_mem hlt)) (by rw [← sums_take ns i hlt]; exact HP.out (i + 1) hlt)
      clear g0 g1 g2 hs1 hs2 hQ hQ2 hbl2 hX hR hP h1 h2
      go_wp2_with fail
      refine (Add_c _ _ _ _ _ HP'.out ⟨_, _, rfl, HQ.out, HQ2.out⟩).mono ?_
      rw [hsp.out]
      rintro e w2 ⟨v2, rfl, hv2, hb2⟩
      obtain ⟨va2, vb2, rfl, h1, h2⟩ := hv2
      have hX3 := HX2.out.after hb2
      obtain ⟨x0, x1, x2⟩ := hX3.cells3
      have f0 := hX3.frozen 0
      have f1 := hX3.frozen 1
      have f2 := hX3.frozen 2
      have HX3 := Lib.hid hX3
      have HR3 := Lib.hid (HR2.out.after hb2)
      have HB3 := Lib.hid (HBL.out.trans (hb2.mono HBL.out.size))
      obtain ⟨p2, cp2, rfl, _, _⟩ := h1.shape
      obtain ⟨q2, cq2, rfl, _, _⟩ := h2.shape
      have HV1 := Lib.hid h1
      have HV2 := Lib.hid h2
      clear hc0 hc1' hc2' h1 h2 hb2 HX2 HR2 HBL HP' HQ HQ2 hsp hX3
      go_wp2_with fail
      go_roundg (ns.length - (i + 1))
      case measure => omega
      case rel => exact ⟨i + 1, .slice p2 (Wh (sums (ns.take (i + 1)))).num.length cp2, .slice q2 (Wh (sums (ns.take (i + 1)))).den.length cq2, hlt, rfl, by go_num, far_box HR3.out (by omega), end_box HX3.out, IsF.result HX3.out (fun _ h => by cases h) (fun _ h => by cases h) HV1.out HV2.out, ((HB3.out.setCell (p := ⟨w1.heap.size, 0, none⟩) (by simp; omega) _).setCell (p := ⟨w1.heap.size, 1, none⟩) (by simp; omega) _).setCell (p := ⟨w1.heap.size, 2, none⟩) (by simp; omega) _⟩
    · obtain rfl : i = ns.length := by omega
      obtain ⟨x0, x1, x2⟩ := hX.cells3
      obtain ⟨r0, r1, r2⟩ := hR.out.cells3
      have f0 := hR.out.frozen 0
      have f1 := hR.out.frozen 1
      have f2 := hR.out.frozen 2
      rw [List.take_length] at x1 x2 h1 h2
      have HV1 := Lib.hid h1
      have HV2 := Lib.hid h2
      have HBL := Lib.hid hbl
      clear h1 h2 hP hbl hX
      go_wp2_with fail
      refine bodyPost_ret (v := .agg #[.bool (Wh (sums ns)).neg, .slice pa (Wh (sums ns)).num.length ca, .slice pb (Wh (sums ns)).den.length cb]) (by simp [results, Try.results88, go_sem, r0, r1, r2]; rfl) rfl ?_
      exact retF1_end (x := Wh (sums ns)) HBL.out hR.out (fun _ h => by cases h) (fun _ h => by cases h) (Nat.le_refl _) HV1.out HV2.out

theorem whole_i (w : World) (z : Int) (n : Nat) (hz : z = n) (hn : n < 9223372036854775808) : Calls Try.prog 73 #[.int .i64 z] w (RetF1 w (Wh n)) := by subst hz; exact whole_c w n hn
/-- C(n, k), step by step. -/
theorem ch_step {n k i : Nat} (hk : k ≤ n) (h0 : 0 < i) (hi : i ≤ k) : ch (n - k + (i - 1)) (i - 1) * (n - k + i) = ch (n - k + i) i * i := by
  obtain ⟨j, rfl⟩ : ∃ j, i = j + 1 := ⟨i - 1, by omega⟩
  have h := ch_absorb (n - k + j) j
  rw [Nat.add_sub_cancel, ← Nat.add_assoc, Nat.mul_comm, ← h, Nat.mul_comm]
theorem ch_limbs {n k : Nat} (hn : n ≤ 64) : (limbs (ch n k)).length ≤ 3 := by
  apply limbs_len_lt
  have h1 := ch_le n k
  have h2 : 2 ^ n ≤ 2 ^ 64 := Nat.pow_le_pow_right (by omega) hn
  have h3 : (2 : Nat) ^ 64 < 4294967296 ^ 3 := by decide
  omega

theorem times2_t (w : World) (v : Value) (a b : Nat) (h : SlF w v [Wh a, Wh b]) (ha : (limbs a).length ≤ 32) (hb : (limbs b).length ≤ 32) (hab : (limbs (a * b)).length ≤ 32) :
    Calls Try.prog 71 #[v] w (RetF1 w (Wh (a * b))) := by
  have := times_t w v [a, b] h (by simp) (by simp) (by simp [ha, hb]) (fun i hi => by
    match i, hi with
    | 0, _ => show (limbs 1).length ≤ 32; rw [limbs_one_len]; omega
    | 1, _ => show (limbs (a * 1)).length ≤ 32; rw [Nat.mul_one]; exact ha
    | 2, _ => show (limbs (a * (b * 1))).length ≤ 32; rw [Nat.mul_one]; exact hab)
  rwa [show prod [a, b] = a * b from by simp [prod]] at this

set_option maxRecDepth 100000 in
set_option maxHeartbeats 2000000 in
theorem choose_t (w : World) (n k : Nat) (hk : k ≤ n) (hn : n ≤ 64) : Calls Try.prog 72 #[.int .i64 (n : Int), .int .i64 (k : Int)] w (RetF1 w (Wh (ch n k))) := by
  obtain ⟨W0, hW⟩ : ∃ W0, W0 = w.alloc (.cells #[.bool false, .slice none 0 0, .slice none 0 0] 30) := ⟨_, rfl⟩
  have hb0 : Below w.heap.size w W0 := hW ▸ (Below.refl w.heap.size w).alloc (Nat.le_refl _) _
  have br : Box W0 w.heap.size #[.bool false, .slice none 0 0, .slice none 0 0] 30 := hW ▸ Box.new w _ _
  have HB0 := Lib.hid hb0
  have BR := Lib.hid br
  clear hb0 br
  go_enter Try.func72, Try.ntmps72
  go_upto_region 1 with fail
  rw [← hW]
  clear hW
  go_wp2_with fail
  refine (whole_c _ 1 (by omega)).mono ?_
  rintro e w1 ⟨v1, rfl, hv1, hb1⟩
  obtain ⟨va, vb, rfl, h1, h2⟩ := hv1
  have bx1 := BR.out.after hb1
  have hlt0 := bx1.lt
  have BX1 := Lib.hid bx1
  have HV1 := Lib.hid h1
  have HV2 := Lib.hid h2
  obtain ⟨p, cp, rfl, _, _⟩ := h1.shape
  obtain ⟨q, cq, rfl, _, _⟩ := h2.shape
  have HB1 := Lib.hid (HB0.out.trans (hb1.mono HB0.out.size))
  clear bx1 h1 h2 hb1
  go_wp2_with fail
  go_loopg [6] (k + 1) (fun g t wx => ∃ (i : Nat) (va vb : Value), i ≤ k ∧ g = k - i + 1 ∧ t = .int .i64 ((i : Int) + 1) ∧ Hid (Box wx w.heap.size #[.bool false, .slice none 0 0, .slice none 0 0] 30) ∧
    Box wx w1.heap.size #[.bool false, va, vb] 30 ∧ Hid (IsF wx (.agg #[.bool false, va, vb]) (Wh (ch (n - k + i) i))) ∧ Below w.heap.size w wx)
  case atStart =>
    have hb := ((Below.refl w1.heap.size w1).alloc (Nat.le_refl _) (.cells #[.bool (Wh 1).neg, .slice p (Wh 1).num.length cp, .slice q (Wh 1).den.length cq] 30))
    refine ⟨0, .slice p (Wh 1).num.length cp, .slice q (Wh 1).den.length cq, Nat.zero_le _, rfl, rfl, BX1.out.after hb, Box.new _ _ _, ?_, HB1.out.trans (hb.mono HB1.out.size)⟩
    rw [ch_zero]
    exact ⟨_, _, rfl, HV1.out.after hb, HV2.out.after hb⟩
  case round =>
    obtain ⟨i, va, vb, hile, rfl, rfl, hR, hX, hP, hbl⟩ := hrel
    clear HV1 HV2 HB1 BX1 BR HB0
    obtain ⟨_, h1, h2⟩ := hP.out.parts
    obtain ⟨pa, ca, rfl, _, _⟩ := h1.shape
    obtain ⟨pb, cb, rfl, _, _⟩ := h2.shape
    obtain ⟨x0, x1, x2⟩ := hX.cells3
    have hlx := hX.lt
    by_cases hlt : i < k
    · have HX := Lib.hid hX
      have HP := Lib.hid hP.out
      have HBL := Lib.hid hbl
      have hz : Hid (IntKind.i64.wrap (IntKind.i64.wrap ((n : Int) - k) + ((i : Int) + 1)) = ((n - k + (i + 1) : Nat) : Int)) := by
        show _ = _
        rw [wrap_in (z := (n : Int) - k) (by omega) (by omega), wrap_in (by omega) (by omega)]
        omega
      have hz2 : Hid (n - k + (i + 1) < 9223372036854775808) := by show _ < _; omega
      have l1 : Hid ((limbs (ch (n - k + i) i)).length ≤ 32) := Nat.le_trans (ch_limbs (by omega)) (by omega)
      have l2 : Hid ((limbs (n - k + (i + 1))).length ≤ 32) := Nat.le_trans (limbs_mid (by omega)) (by omega)
      have l3 : Hid ((limbs (ch (n - k + i) i * (n - k + (i + 1)))).length ≤ 32) := Nat.le_trans (limbs_mul_len _ _) (by have := ch_limbs (n := n - k + i) (k := i) (by omega); have := limbs_mid (n := n - k + (i + 1)) (by omega); omega)
      clear hX hP hbl h1 h2
      go_upto_region 2 with fail
      go_region_with (first
         | (go_at_call 73; refine (whole_i _ _ (n - k + (i + 1)) hz.out hz2.out).mono ?_; rintro e w2 ⟨v2, rfl, hv2, hb1⟩; obtain ⟨vc, vd, rfl, h3, h4⟩ := hv2; obtain ⟨pc, cc, rfl, _, _⟩ := h3.shape; obtain ⟨pd, cd, rfl, _, _⟩ := h4.shape; have y0 := keep_cell (below_of_drew hb1) x0; have y1 := keep_cell (below_of_drew hb1) x1; have y2 := keep_cell (below_of_drew hb1) x2)
         | (go_at_call 71; refine (times2_t _ _ (ch (n - k + i) i) (n - k + (i + 1)) ?_ l1.out l2.out l3.out).mono ?_; exact SlF.two w2 (x := Wh (ch (n - k + i) i)) (y := Wh (n - k + (i + 1))) (HP.out.after (below_of_drew hb1)) ⟨_, _, rfl, h3, h4⟩ rfl _; rintro e w3 ⟨v3, rfl, hv3, hb3⟩; obtain ⟨ve, vf, rfl, h5, h6⟩ := hv3; obtain ⟨pe, ce, rfl, _, _⟩ := h5.shape; obtain ⟨pf, cf, rfl, _, _⟩ := h6.shape; have hbx := ((HX.out.after (below_of_drew hb1)).alloc _).after hb3; obtain ⟨z0, z1, z2⟩ := hbx.cells3; have f0 := hbx.frozen 0; have f1 := hbx.frozen 1; have f2 := hbx.frozen 2))
      all_goals
        have bw3 : Below w.heap.size w w3 := HBL.out.trans (((below_of_drew hb1).mono HBL.out.size).trans ((((Below.refl _ w2).alloc (Nat.le_refl _) _).trans (hb3.mono (by simp))).mono (Nat.le_trans HBL.out.size (below_of_drew hb1).size)))
        have hR3 := ((hR.out.after (below_of_drew hb1)).alloc _).after hb3
        obtain ⟨W3, hW3⟩ : ∃ W3, W3 = (((w3.setCell ⟨w1.heap.size, 0, none⟩ (.bool (Wh (ch (n - k + i) i * (n - k + (i + 1)))).neg)).setCell ⟨w1.heap.size, 1, none⟩ (.slice pe (Wh (ch (n - k + i) i * (n - k + (i + 1)))).num.length ce)).setCell ⟨w1.heap.size, 2, none⟩ (.slice pf (Wh (ch (n - k + i) i * (n - k + (i + 1)))).den.length cf)) := ⟨_, rfl⟩
        have HV3 := Lib.hid (hW3 ▸ IsF.result hbx (fun _ h => by cases h) (fun _ h => by cases h) h5 h6)
        have HX3 := Lib.hid (hW3 ▸ end_box hbx (y0 := .bool (Wh (ch (n - k + i) i * (n - k + (i + 1)))).neg) (y1 := .slice pe (Wh (ch (n - k + i) i * (n - k + (i + 1)))).num.length ce) (y2 := .slice pf (Wh (ch (n - k + i) i * (n - k + (i + 1)))).den.length cf))
        have HR3 := Lib.hid (hW3 ▸ far_box hR3 (y0 := .bool (Wh (ch (n - k + i) i * (n - k + (i + 1)))).neg) (y1 := .slice pe (Wh (ch (n - k + i) i * (n - k + (i + 1)))).num.length ce) (y2 := .slice pf (Wh (ch (n - k + i) i * (n - k + (i + 1)))).den.length cf) (show w.heap.size ≠ w1.heap.size by omega))
        have HB3 : Hid (Below w.heap.size w W3) := hW3 ▸ ((bw3.setCell (p := ⟨w1.heap.size, 0, none⟩) (by simp; omega) _).setCell (p := ⟨w1.heap.size, 1, none⟩) (by simp; omega) _).setCell (p := ⟨w1.heap.size, 2, none⟩) (by simp; omega) _
        have hcalc : ch (n - k + i) i * (n - k + (i + 1)) = ch (n - k + (i + 1)) (i + 1) * (i + 1) := ch_step hk (by omega) hlt
        have hl5 : (limbs (ch (n - k + (i + 1)) (i + 1))).length ≤ 32 := Nat.le_trans (ch_limbs (by omega)) (by omega)
        have hl6 : (limbs (i + 1)).length ≤ 32 := Nat.le_trans (limbs_mid (by omega)) (by omega)
        have HDIV := Lib.hid (div_wh l3.out hl6 (by omega) hcalc hl5)
        have hz3 : Hid (((i : Int) + 1) = ((i + 1 : Nat) : Int)) := by show _ = _; omega
        have hz4 : Hid (i + 1 < 9223372036854775808) := by show _ < _; omega
        rw [← hW3]
        clear hW3 bw3 hR3 hbx z0 z1 z2 f0 f1 f2 hb3 hb1 h3 h4 h5 h6 y0 y1 y2 x0 x1 x2 HX HP HBL hR hz hz2 l1 l2 l3 hcalc hl5 hl6
        generalize ch (n - k + i) i * (n - k + (i + 1)) = P at *
        obtain ⟨x0, x1, x2⟩ := HX3.out.cells3
        go_upto_region 1 with fail
        go_region_with (first
         | (go_at_call 73; refine (whole_i _ _ (i + 1) hz3.out hz4.out).mono ?_; rintro e w4 ⟨v4, rfl, hv4, hb4⟩; obtain ⟨vg, vh, rfl, h7, h8⟩ := hv4; obtain ⟨pg, cg, rfl, _, _⟩ := h7.shape; obtain ⟨ph, ch', rfl, _, _⟩ := h8.shape; have y0 := keep_cell (below_of_drew hb4) x0; have y1 := keep_cell (below_of_drew hb4) x1; have y2 := keep_cell (below_of_drew hb4) x2)
         | (go_at_call 47; refine (Div_c _ _ _ (Wh P) (Wh (i + 1)) (HV3.out.after (below_of_drew hb4)) ⟨_, _, rfl, h7, h8⟩).mono ?_; rw [HDIV.out]; rintro e w5 ⟨v5, rfl, hv5, hb5⟩; obtain ⟨vi, vj, rfl, h9, h10⟩ := hv5; obtain ⟨pi, ci, rfl, _, _⟩ := h9.shape; obtain ⟨pj, cj, rfl, _, _⟩ := h10.shape; have hb45 := (below_of_drew hb4).trans (hb5.mono (below_of_drew hb4).size); have hbx := HX3.out.after hb45; obtain ⟨z0, z1, z2⟩ := hbx.cells3; have f0 := hbx.frozen 0; have f1 := hbx.frozen 1; have f2 := hbx.frozen 2))
        all_goals
          have hR5 := HR3.out.after hb45
          have hB5 := HB3.out.trans (hb45.mono HB3.out.size)
          go_wp2_with fail
          go_roundg (k - (i + 1) + 1)
          case measure => omega
          case rel => exact ⟨i + 1, .slice pi (Wh (ch (n - k + (i + 1)) (i + 1))).num.length ci, .slice pj (Wh (ch (n - k + (i + 1)) (i + 1))).den.length cj, hlt, rfl, by go_num, far_box hR5 (by omega), end_box hbx, IsF.result hbx (fun _ h => by cases h) (fun _ h => by cases h) h9 h10, ((hB5.setCell (p := ⟨w1.heap.size, 0, none⟩) (by simp; omega) _).setCell (p := ⟨w1.heap.size, 1, none⟩) (by simp; omega) _).setCell (p := ⟨w1.heap.size, 2, none⟩) (by simp; omega) _⟩
    · obtain rfl : i = k := by omega
      rw [show n - i + i = n from by omega] at h1 h2 x1 x2 hP
      obtain ⟨r0, r1, r2⟩ := hR.out.cells3
      have f0 := hR.out.frozen 0
      have f1 := hR.out.frozen 1
      have f2 := hR.out.frozen 2
      have HV1 := Lib.hid h1
      have HV2 := Lib.hid h2
      have HBL := Lib.hid hbl
      clear h1 h2 hP hbl hX
      go_wp2_with fail
      refine bodyPost_ret (v := .agg #[.bool (Wh (ch n i)).neg, .slice pa (Wh (ch n i)).num.length ca, .slice pb (Wh (ch n i)).den.length cb]) (by simp [results, Try.results72, go_sem, r0, r1, r2]; rfl) rfl ?_
      exact retF1_end (x := Wh (ch n i)) HBL.out hR.out (fun _ h => by cases h) (fun _ h => by cases h) (Nat.le_refl _) HV1.out HV2.out
end Go.Proofs.Ytjjefdkadgkhfaa

namespace Go.Proofs.Ytjjefdkadgkhfaa
open Go.RowKit

/-- n is a number of trials, and k from 0 to most. -/
def trialsB (n k most : Int) : Bool := decide (0 ≤ n) && decide (n ≤ 64) && decide (0 ≤ k) && decide (k ≤ most)
theorem trialsB_iff {n k most : Int} : trialsB n k most = true ↔ 0 ≤ n ∧ n ≤ 64 ∧ 0 ≤ k ∧ k ≤ most := by unfold trialsB; simp [and_assoc]

set_option maxHeartbeats 1000000 in
theorem ttrials_c (w : World) (n k m : Int) : Calls Try.prog 45 #[.int .i64 n, .int .i64 k, .int .i64 m] w fun e w' => e = .returned (.bool (trialsB n k m)) ∧ w' = w := by
  by_cases h1 : 0 ≤ n
  · by_cases h2 : n ≤ 64
    · by_cases h3 : 0 ≤ k
      · by_cases h4 : k ≤ m
        · have hs := Lib.hid (trialsB_iff.2 ⟨h1, h2, h3, h4⟩)
          go_enter Try.func45, Try.ntmps45
          go_wp2
          go_ret
          exact ⟨ret_bool (by rw [hs.out]), rfl⟩
        · have hs : Hid (trialsB n k m = false) := by show _ = _; unfold trialsB; simp [h4]
          go_enter Try.func45, Try.ntmps45
          go_wp2
          go_ret
          exact ⟨ret_bool (by rw [hs.out]), rfl⟩
      · have hs : Hid (trialsB n k m = false) := by show _ = _; unfold trialsB; simp [h3]
        go_enter Try.func45, Try.ntmps45
        go_wp2
        go_ret
        exact ⟨ret_bool (by rw [hs.out]), rfl⟩
    · have hs : Hid (trialsB n k m = false) := by show _ = _; unfold trialsB; simp [h2]
      go_enter Try.func45, Try.ntmps45
      go_wp2
      go_ret
      exact ⟨ret_bool (by rw [hs.out]), rfl⟩
  · have hs : Hid (trialsB n k m = false) := by show _ = _; unfold trialsB; simp [h1]
    go_enter Try.func45, Try.ntmps45
    go_wp2
    go_ret
    exact ⟨ret_bool (by rw [hs.out]), rfl⟩

theorem run_field1 (w : World) (b : Bool) (p q : Option Addr) (n m c d : Nat) :
    Sem.run Try.prog (Instr.field 30 (.agg #[.bool b, .slice p n c, .slice q m d]) 1) w = .ok (.slice p n c) w := by kernel_rfl
attribute [local go_sem ↓] run_field1
/-- What Choose returns. -/
def chooseF (n k : Int) : List Nat × Int := if trialsB n k n = true then (limbs (ch n.toNat k.toNat), 0) else ([], 2)
/-- A number and an error. -/
def RetN (w : World) (r : List Nat × Int) (e : Ending) (w' : World) : Prop := ∃ v, e = .returned (.tuple #[v, .int .i64 r.2]) ∧ Sl w' v r.1 ∧ Below w.heap.size w w'

theorem start1 (w : World) (A : Array Value) (t : TypeId) : ∃ W0, W0 = w.alloc (.cells A t) ∧ Box W0 w.heap.size A t ∧ w.heap.size < W0.heap.size ∧ Below w.heap.size w W0 :=
  ⟨_, rfl, Box.new w A t, by simp, (Below.refl _ w).alloc (Nat.le_refl _) _⟩

/-- An error and nothing else. -/
def RetE (w : World) (n : Int) (e : Ending) (w' : World) : Prop := e = .returned (.int .i64 n) ∧ Below w.heap.size w w'
/-- The error of a fraction from 0 to 1. -/
noncomputable def fracE (x : F) : Int := open Classical in if ValidF x then (if x.neg = true ∨ val x.den < val x.num then 2 else 0) else 1
theorem fracE_no {x : F} (h : ¬ ValidF x) : fracE x = 1 := by unfold fracE; rw [if_neg h]
theorem fracE_yes {x : F} (h : ValidF x) : fracE x = if x.neg = true ∨ val x.den < val x.num then 2 else 0 := by unfold fracE; rw [if_pos h]
theorem cmp_one {x : F} (h : ValidF x) (hn : x.neg = false) : (cmpF x (Wh 1)).1 = if val x.num < val x.den then -1 else if val x.num = val x.den then 0 else 1 := by
  have h1 : (limbs 1).length ≤ 32 := by rw [limbs_one_len]; omega
  have e1 : val (Wh 1).num = 1 := val_limbs 1
  have e2 : val (Wh 1).den = 1 := val_limbs 1
  have e3 : (Wh 1).neg = false := rfl
  rw [cmpF_yes ⟨h, valid_wh h1⟩, hn, e1, e2, e3]
  unfold ordN
  rw [if_pos rfl, if_neg (by simp), Nat.mul_one, Nat.one_mul]

set_option maxRecDepth 100000 in
set_option maxHeartbeats 1000000 in
theorem fraction_c (w : World) (v : Value) (x : F) (h : IsF w v x) : Calls Try.prog 65 #[v] w (RetE w (fracE x)) := by
  have HX := h
  obtain ⟨va, vb, rfl, h1, h2⟩ := h
  obtain ⟨W0, hW, bx, hsz, hb0⟩ := start1 w #[.bool x.neg, va, vb] 30
  obtain ⟨c0, c1, c2⟩ := bx.cells3
  obtain ⟨p, cp, rfl, _, _⟩ := h1.shape
  obtain ⟨q, cq, rfl, _, _⟩ := h2.shape
  have H1 := Lib.hid (HX.after hb0)
  have HB0 := Lib.hid hb0
  have BX := Lib.hid bx
  clear HX bx hb0 h1 h2
  by_cases hv : ValidF x
  · have hv' := Lib.hid hv
    cases hneg : x.neg with
    | true =>
      rw [hneg] at hW c0 H1 BX
      have hs : Hid (fracE x = 2) := by show _ = _; rw [fracE_yes hv, if_pos (.inl hneg)]
      clear hv hneg
      go_enter Try.func65, Try.ntmps65
      go_upto_region 1 with fail
      rw [← hW]
      clear hW
      go_wp2_with fail
      refine (Valid_c _ _ _ H1.out).mono ?_
      intro e w1 hr
      obtain ⟨rfl, hb1⟩ := hr.yes hv'.out
      obtain ⟨c0', c1', c2'⟩ := (BX.out.after hb1).cells3
      have KW := Lib.hid (HB0.out.trans (hb1.mono HB0.out.size))
      clear hr hb1 c0 c1 c2 H1
      go_upto_region 2 with fail
      go_quiet (fail)
      go_wp2_with fail
      go_ret
      exact ⟨ret_int (by rw [hs.out]), KW.out.trans (below_drewN _ _ _)⟩
    | false =>
      have hsg := cmp_one hv hneg
      have hs : fracE x = if val x.den < val x.num then 2 else 0 := by rw [fracE_yes hv, hneg]; simp
      rw [hneg] at hW c0 H1 BX
      have HS := Lib.hid hs
      obtain ⟨r, hr0⟩ : ∃ r, (cmpF x (Wh 1)).1 = r := ⟨_, rfl⟩
      rw [hr0] at hsg
      have HSG := Lib.hid hsg
      have HR0 := Lib.hid hr0
      clear hv hneg hs hsg hr0
      go_enter Try.func65, Try.ntmps65
      go_upto_region 1 with fail
      rw [← hW]
      clear hW
      go_wp2_with fail
      refine (Valid_c _ _ _ H1.out).mono ?_
      intro e w1 hr
      obtain ⟨rfl, hb1⟩ := hr.yes hv'.out
      obtain ⟨c0', c1', c2'⟩ := (BX.out.after hb1).cells3
      have KW := Lib.hid (HB0.out.trans (hb1.mono HB0.out.size))
      have K1 := Lib.hid (H1.out.after hb1)
      clear hr hb1 c0 c1 c2 H1
      go_upto_region 2 with fail
      go_region_held3 (fun w' => w'.cell? ⟨w.heap.size, 0, none⟩ = some (.bool false) ∧ w'.cell? ⟨w.heap.size, 1, none⟩ = some (.slice p x.num.length cp) ∧ w'.cell? ⟨w.heap.size, 2, none⟩ = some (.slice q x.den.length cq))
        (first
         | go_keep
         | (exact ⟨keep_cell (below_of_drew hb2) c0', keep_cell (below_of_drew hb2) c1', keep_cell (below_of_drew hb2) c2'⟩)
         | (exact ⟨keep_cell hb3 (keep_cell (below_of_drew hb2) c0'), keep_cell hb3 (keep_cell (below_of_drew hb2) c1'), keep_cell hb3 (keep_cell (below_of_drew hb2) c2')⟩))
        (first
         | (go_at_call 73; refine (whole_c _ 1 (by omega)).mono ?_; rintro e w2 ⟨v2, rfl, hv2, hb2⟩)
         | (go_at_call 85; refine (tsign_c _ _ _ x (Wh 1) (K1.out.after (below_of_drew hb2)) hv2).mono ?_; rw [HR0.out]; rintro e w3 ⟨rfl, hb3⟩))
      have hfin : Hid (Below w.heap.size w w3) := KW.out.trans (((below_of_drew hb2).trans (hb3.mono (below_of_drew hb2).size)).mono KW.out.size)
      clear hb2 hb3 hv2 c0' c1' c2' K1 KW
      by_cases g1 : 0 < r
      · have hs : Hid (fracE x = 2) := by
          have e := HSG.out
          show _ = _
          rw [HS.out, if_pos]
          rw [e] at g1
          rcases Nat.lt_trichotomy (val x.num) (val x.den) with h | h | h
          · rw [if_pos h] at g1; omega
          · rw [if_neg (by omega), if_pos h] at g1; omega
          · exact h
        go_wp2_with fail
        go_ret
        exact ⟨ret_int (by rw [hs.out]), hfin.out⟩
      · have hs : Hid (fracE x = 0) := by
          have e := HSG.out
          show _ = _
          rw [HS.out, if_neg]
          intro h
          rw [e, if_neg (by omega), if_neg (by omega)] at g1
          omega
        go_wp2_with fail
        go_ret
        exact ⟨ret_int (by rw [hs.out]), hfin.out⟩
  · have hs := Lib.hid (fracE_no hv)
    have hv' := Lib.hid hv
    clear hv
    go_enter Try.func65, Try.ntmps65
    go_upto_region 1 with fail
    rw [← hW]
    clear hW
    go_wp2_with fail
    refine (Valid_c _ _ _ H1.out).mono ?_
    intro e w1 hr
    obtain ⟨rfl, hb1⟩ := hr.no hv'.out
    have KW := Lib.hid (HB0.out.trans (hb1.mono HB0.out.size))
    clear hr hb1 c0 c1 c2 H1
    go_wp2_with fail
    go_ret
    exact ⟨ret_int (by rw [hs.out]), KW.out⟩
end Go.Proofs.Ytjjefdkadgkhfaa
