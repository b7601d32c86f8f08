/- Walks of package tails: whole, sign, times, sum.
   Walks of package tails: sum, choose.
   Walks of package tails: powers. -/
import Derived.Test.YtebmegodeglobaaK06
import Derived.Test.YtebmegodeglobaaK08
import Derived.Deep.AppendLies
set_option linter.unusedVariables false
namespace Go.Proofs.Ytebmegodeglobaa
open Go.RowKit

theorem wrap_in {z : Int} (h0 : -9223372036854775808 ≤ z) (h1 : z ≤ 9223372036854775807) : IntKind.i64.wrap z = z := by rw [IntKind.wrap_i64]; omega
theorem end_box {w1 : World} {R : Nat} {x0 x1 x2 y0 y1 y2 : Value} {t : TypeId} (hR : Box w1 R #[x0, x1, x2] t) : Box (((w1.setCell ⟨R, 0, none⟩ y0).setCell ⟨R, 1, none⟩ y1).setCell ⟨R, 2, none⟩ y2) R #[y0, y1, y2] t := by
  have := ((hR.set 0 y0).set 1 y1).set 2 y2
  simpa using this
theorem far_box {w1 : World} {R S : Nat} {cs : Array Value} {y0 y1 y2 : Value} {t : TypeId} (hR : Box w1 S cs t) (h : S ≠ R) : Box (((w1.setCell ⟨R, 0, none⟩ y0).setCell ⟨R, 1, none⟩ y1).setCell ⟨R, 2, none⟩ y2) S cs t :=
  ((hR.far (p := ⟨R, 0, none⟩) h _).far (p := ⟨R, 1, none⟩) h _).far (p := ⟨R, 2, none⟩) h _
/-- The cells of a struct just written, behind a later block. -/
theorem end_cells {w1 : World} {R : Nat} {x0 x1 x2 y0 y1 y2 : Value} {t : TypeId} (hR : Box w1 R #[x0, x1, x2] t) (o : Obj) :
    ((((w1.setCell ⟨R, 0, none⟩ y0).setCell ⟨R, 1, none⟩ y1).setCell ⟨R, 2, none⟩ y2).alloc o).cell? ⟨R, 0, none⟩ = some y0 ∧
    ((((w1.setCell ⟨R, 0, none⟩ y0).setCell ⟨R, 1, none⟩ y1).setCell ⟨R, 2, none⟩ y2).alloc o).cell? ⟨R, 1, none⟩ = some y1 ∧
    ((((w1.setCell ⟨R, 0, none⟩ y0).setCell ⟨R, 1, none⟩ y1).setCell ⟨R, 2, none⟩ y2).alloc o).cell? ⟨R, 2, none⟩ = some y2 := by
  have h : Box (((w1.setCell ⟨R, 0, none⟩ y0).setCell ⟨R, 1, none⟩ y1).setCell ⟨R, 2, none⟩ y2) R #[y0, y1, y2] t := by
    have := ((hR.set 0 y0).set 1 y1).set 2 y2
    simpa using this
  exact (h.alloc o).cells3
/-- The end of a function that returns a fraction in a result struct. -/
theorem retF1_end {w w1 : World} {R : Nat} {x : F} {n0 : Bool} {x1 x2 va vb : Value} {t : TypeId} (hb : Below w.heap.size w w1) (hR : Box w1 R #[.bool n0, x1, x2] t) (hx1 : ∀ x, x1 ≠ .int .u32 x) (hx2 : ∀ x, x2 ≠ .int .u32 x) (hle : w.heap.size ≤ R) (h1 : Sl w1 va x.num) (h2 : Sl w1 vb x.den) :
    RetF1 w x (.returned (.agg #[.bool x.neg, va, vb])) (((w1.setCell ⟨R, 0, none⟩ (.bool x.neg)).setCell ⟨R, 1, none⟩ va).setCell ⟨R, 2, none⟩ vb) :=
  ⟨_, rfl, IsF.result hR hx1 hx2 h1 h2, ((hb.setCell hle _).setCell hle _).setCell hle _⟩
theorem RetF1.alloc {w w1 : World} {x : F} {e : Ending} (h : RetF1 w x e w1) (o : Obj) : RetF1 w x e (w1.alloc o) := by
  obtain ⟨v, h1, h2, h3⟩ := h
  exact ⟨v, h1, h2.alloc o, h3.alloc h3.size o⟩

set_option maxRecDepth 100000 in
set_option maxHeartbeats 1000000 in
theorem whole_c (w : World) (n : Nat) (hn : n < 9223372036854775808) : Calls Try.prog 63 #[.int .i64 (n : Int)] w (RetF1 w (Wh n)) := by
  obtain ⟨W0, hW⟩ : ∃ W0, W0 = w.alloc (.cells #[.bool false, .slice none 0 0, .slice none 0 0] 26) := ⟨_, rfl⟩
  have hb0 : Below w.heap.size w W0 := hW ▸ (Below.refl w.heap.size w).alloc (Nat.le_refl _) _
  have br : Box W0 w.heap.size #[.bool false, .slice none 0 0, .slice none 0 0] 26 := hW ▸ Box.new w _ _
  have hl : Hid ((limbs n).length ≤ 32) := by have := limbs_mid (n := n) (by omega); show _ ≤ _; omega
  have HB0 := Lib.hid hb0
  have BR := Lib.hid br
  clear hb0 br
  go_enter Try.func63, Try.ntmps63
  go_upto_region 1 with fail
  rw [← hW]
  clear hW
  go_wp2_with fail
  refine (Of_c _ n 1 (by omega) (by omega) (by omega) (by omega)).mono ?_
  rw [of_wh hl.out]
  rintro e w1 ⟨v, rfl, hv, hb1⟩
  obtain ⟨va, vb, rfl, h1, h2⟩ := hv
  have bx1 := BR.out.after hb1
  obtain ⟨r0, r1, r2⟩ := bx1.cells3
  have f0 := bx1.frozen 0
  have f1 := bx1.frozen 1
  have f2 := bx1.frozen 2
  have hlt := bx1.lt
  have BX1 := Lib.hid bx1
  have HV1 := Lib.hid h1
  have HV2 := Lib.hid h2
  obtain ⟨p, cp, rfl, _, _⟩ := h1.shape
  obtain ⟨q, cq, rfl, _, _⟩ := h2.shape
  have HB1 := Lib.hid (HB0.out.trans (hb1.mono HB0.out.size))
  clear bx1 h1 h2 hb1
  go_wp2_with fail
  obtain ⟨e0, e1, e2⟩ := end_cells BX1.out (y0 := .bool (Wh n).neg) (y1 := .slice p (Wh n).num.length cp) (y2 := .slice q (Wh n).den.length cq) (.cells #[.bool (Wh n).neg, .slice p (Wh n).num.length cp, .slice q (Wh n).den.length cq] 26)
  refine bodyPost_ret (v := .agg #[.bool (Wh n).neg, .slice p (Wh n).num.length cp, .slice q (Wh n).den.length cq]) (by simp [results, Try.results63, go_sem, e0, e1, e2]) rfl ?_
  exact (retF1_end HB1.out BX1.out (fun _ h => by cases h) (fun _ h => by cases h) (Nat.le_refl _) HV1.out HV2.out).alloc _

set_option maxRecDepth 100000 in
set_option maxHeartbeats 1000000 in
theorem tsign_c (w : World) (v u : Value) (x y : F) (h : IsF w v x) (k : IsF w u y) :
    Calls Try.prog 62 #[v, u] w fun e w' => e = .returned (.int .i64 (cmpF x y).1) ∧ Below w.heap.size w w' := by
  have HX := h
  have HY := k
  obtain ⟨va, vb, rfl, _, _⟩ := h
  obtain ⟨vc, vd, rfl, _, _⟩ := k
  obtain ⟨W0, hW, bx, by', hsz, hb0⟩ := start2 w #[.bool x.neg, va, vb] #[.bool y.neg, vc, vd] 26
  obtain ⟨c0, c1, c2⟩ := bx.cells3
  obtain ⟨d0, d1, d2⟩ := by'.cells3
  have H1 := Lib.hid (HX.after hb0)
  have H2 := Lib.hid (HY.after hb0)
  have HB0 := Lib.hid hb0
  clear HX HY bx by' hb0
  go_enter Try.func62, Try.ntmps62
  go_upto_region 1 with fail
  rw [← hW]
  clear hW
  go_wp2_with fail
  refine (Cmp_c _ _ _ _ _ H1.out H2.out).mono ?_
  rintro e w1 ⟨rfl, hb1⟩
  have KW := Lib.hid (HB0.out.trans (hb1.mono HB0.out.size))
  obtain ⟨r, hr⟩ : ∃ r, cmpF x y = r := ⟨_, rfl⟩
  rw [hr]
  have HR := Lib.hid hr
  clear hr hb1
  go_wp2_with fail
  go_ret
  exact ⟨by rw [HR.out]; rfl, KW.out⟩

/-- The product of numbers. -/
def prod : List Nat → Nat
  | [] => 1
  | a :: l => a * prod l
theorem prod_snoc (l : List Nat) (a : Nat) : prod (l ++ [a]) = prod l * a := by
  induction l with
  | nil => simp [prod]
  | cons x l ih => simp only [List.cons_append, prod, ih, Nat.mul_assoc]
theorem prod_take (l : List Nat) (i : Nat) (h : i < l.length) : prod (l.take (i + 1)) = prod (l.take i) * l[i] := by
  rw [List.take_add_one, List.getElem?_eq_getElem h]
  exact prod_snoc _ _

set_option maxRecDepth 100000 in
set_option maxHeartbeats 2000000 in
theorem times_t (w : World) (v : Value) (ns : List Nat) (h : SlF w v (ns.map Wh)) (h0 : 0 < ns.length) (hl : ns.length ≤ 100) (hn : ∀ n ∈ ns, (limbs n).length ≤ 32) (hp : ∀ i, i ≤ ns.length → (limbs (prod (ns.take i))).length ≤ 32) :
    Calls Try.prog 52 #[v] w (RetF1 w (Wh (prod ns))) := by
  have hh := h
  obtain ⟨b, cap, rfl, hc1, hc2, hcs⟩ := h
  have hlen : (ns.map Wh).length = ns.length := List.length_map _
  have hbl' := hh.lt (by omega)
  rw [hlen] at hc1
  rw [hlen]
  obtain ⟨W0, hW⟩ : ∃ W0, W0 = w.alloc (.cells #[.bool false, .slice none 0 0, .slice none 0 0] 26) := ⟨_, rfl⟩
  have hb0 : Below w.heap.size w W0 := hW ▸ (Below.refl w.heap.size w).alloc (Nat.le_refl _) _
  have br : Box W0 w.heap.size #[.bool false, .slice none 0 0, .slice none 0 0] 26 := hW ▸ Box.new w _ _
  have HB0 := Lib.hid hb0
  have BR := Lib.hid br
  have HP := Lib.hid hp
  have HN := Lib.hid hn
  have HCS := Lib.hid hcs
  clear hb0 br hh hlen hp hn hcs
  go_enter Try.func52, Try.ntmps52
  go_upto_region 1 with fail
  rw [← hW]
  clear hW
  go_wp2_with fail
  refine (whole_c _ 1 (by omega)).mono ?_
  rintro e w1 ⟨v1, rfl, hv1, hb1⟩
  obtain ⟨va, vb, rfl, h1, h2⟩ := hv1
  have bx1 := BR.out.after hb1
  have hlt0 := bx1.lt
  have BX1 := Lib.hid bx1
  have HV1 := Lib.hid h1
  have HV2 := Lib.hid h2
  obtain ⟨p, cp, rfl, _, _⟩ := h1.shape
  obtain ⟨q, cq, rfl, _, _⟩ := h2.shape
  have HB1 := Lib.hid (HB0.out.trans (hb1.mono HB0.out.size))
  clear bx1 h1 h2 hb1
  go_wp2_with fail
  go_loopg [9] (ns.length) (fun g t wx => ∃ (i : Nat) (va vb : Value), i ≤ ns.length ∧ g = ns.length - i ∧ t = .int .i64 (i : Int) ∧ Hid (Box wx w.heap.size #[.bool false, .slice none 0 0, .slice none 0 0] 26) ∧
    Box wx w1.heap.size #[.bool false, va, vb] 26 ∧ Hid (IsF wx (.agg #[.bool false, va, vb]) (Wh (prod (ns.take i)))) ∧ Below w.heap.size w wx)
  case atStart =>
    have hb := ((Below.refl w1.heap.size w1).alloc (Nat.le_refl _) (.cells #[.bool (Wh 1).neg, .slice p (Wh 1).num.length cp, .slice q (Wh 1).den.length cq] 26))
    refine ⟨0, .slice p (Wh 1).num.length cp, .slice q (Wh 1).den.length cq, Nat.zero_le _, rfl, rfl, BX1.out.after hb, Box.new _ _ _, ⟨_, _, rfl, HV1.out.after hb, HV2.out.after hb⟩, HB1.out.trans (hb.mono HB1.out.size)⟩
  case round =>
    obtain ⟨i, va, vb, hile, rfl, rfl, hR, hX, hP, hbl⟩ := hrel
    clear HV1 HV2 HB1 BX1 BR HB0
    obtain ⟨_, h1, h2⟩ := hP.out.parts
    obtain ⟨pa, ca, rfl, _, _⟩ := h1.shape
    obtain ⟨pb, cb, rfl, _, _⟩ := h2.shape
    by_cases hlt : i < ns.length
    · obtain ⟨vc, vd, g0, g1, g2, hs1, hs2⟩ := HCS.out i (Wh ns[i]) (by rw [List.getElem?_map, List.getElem?_eq_getElem hlt]; rfl)
      have hc0 := (hbl.cell (p := ⟨b, i * 3, none⟩) hbl').trans g0
      have hc1' := (hbl.cell (p := ⟨b, i * 3 + 1, none⟩) hbl').trans g1
      have hc2' := (hbl.cell (p := ⟨b, i * 3 + 2, none⟩) hbl').trans g2
      obtain ⟨x0, x1, x2⟩ := hX.cells3
      have hlx := hX.lt
      obtain ⟨pc, cc, rfl, _, _⟩ := hs1.shape
      obtain ⟨pd, cd, rfl, _, _⟩ := hs2.shape
      have hQ := hs1.after hbl
      have hQ2 := hs2.after hbl
      have HQ := Lib.hid (hQ.alloc (.cells #[.bool (Wh ns[i]).neg, .slice pc (Wh ns[i]).num.length cc, .slice pd (Wh ns[i]).den.length cd] 26))
      have HQ2 := Lib.hid (hQ2.alloc (.cells #[.bool (Wh ns[i]).neg, .slice pc (Wh ns[i]).num.length cc, .slice pd (Wh ns[i]).den.length cd] 26))
      have HP' := Lib.hid (hP.out.alloc (.cells #[.bool (Wh ns[i]).neg, .slice pc (Wh ns[i]).num.length cc, .slice pd (Wh ns[i]).den.length cd] 26))
      have hbl2 := hbl.alloc hbl.size (.cells #[.bool (Wh ns[i]).neg, .slice pc (Wh ns[i]).num.length cc, .slice pd (Wh ns[i]).den.length cd] 26)
      have HX2 := Lib.hid (hX.alloc (.cells #[.bool (Wh ns[i]).neg, .slice pc (Wh ns[i]).num.length cc, .slice pd (Wh ns[i]).den.length cd] 26))
      have HR2 := Lib.hid (hR.out.alloc (.cells #[.bool (Wh ns[i]).neg, .slice pc (Wh ns[i]).num.length cc, .slice pd (Wh ns[i]).den.length cd] 26))
      have HBL := Lib.hid hbl2
      have hsp : Hid (opF mulN (Wh (prod (ns.take i))) (Wh ns[i]) = (Wh (prod (ns.take (i + 1))), 0)) := by
        show _ = _
        rw [prod_take ns i hlt]
        exact mul_wh (HP.out i hile) (HN.out _ (List.getElem_mem hlt)) (by rw [← prod_take ns i hlt]; exact HP.out (i + 1) hlt)
      clear g0 g1 g2 hs1 hs2 hQ hQ2 hbl2 hX hR hP h1 h2
      go_wp2_with fail
      refine (Mul_c _ _ _ _ _ HP'.out ⟨_, _, rfl, HQ.out, HQ2.out⟩).mono ?_
      rw [hsp.out]
      rintro e w2 ⟨v2, rfl, hv2, hb2⟩
      obtain ⟨va2, vb2, rfl, h1, h2⟩ := hv2
      have hX3 := HX2.out.after hb2
      obtain ⟨x0, x1, x2⟩ := hX3.cells3
      have f0 := hX3.frozen 0
      have f1 := hX3.frozen 1
      have f2 := hX3.frozen 2
      have HX3 := Lib.hid hX3
      have HR3 := Lib.hid (HR2.out.after hb2)
      have HB3 := Lib.hid (HBL.out.trans (hb2.mono HBL.out.size))
      obtain ⟨p2, cp2, rfl, _, _⟩ := h1.shape
      obtain ⟨q2, cq2, rfl, _, _⟩ := h2.shape
      have HV1 := Lib.hid h1
      have HV2 := Lib.hid h2
      clear hc0 hc1' hc2' h1 h2 hb2 HX2 HR2 HBL HP' HQ HQ2 hsp hX3
      go_wp2_with fail
      go_roundg (ns.length - (i + 1))
      case measure => omega
      case rel => exact ⟨i + 1, .slice p2 (Wh (prod (ns.take (i + 1)))).num.length cp2, .slice q2 (Wh (prod (ns.take (i + 1)))).den.length cq2, hlt, rfl, by go_num, far_box HR3.out (by omega), end_box HX3.out, IsF.result HX3.out (fun _ h => by cases h) (fun _ h => by cases h) HV1.out HV2.out, ((HB3.out.setCell (p := ⟨w1.heap.size, 0, none⟩) (by simp; omega) _).setCell (p := ⟨w1.heap.size, 1, none⟩) (by simp; omega) _).setCell (p := ⟨w1.heap.size, 2, none⟩) (by simp; omega) _⟩
    · obtain rfl : i = ns.length := by omega
      obtain ⟨x0, x1, x2⟩ := hX.cells3
      obtain ⟨r0, r1, r2⟩ := hR.out.cells3
      have f0 := hR.out.frozen 0
      have f1 := hR.out.frozen 1
      have f2 := hR.out.frozen 2
      rw [List.take_length] at x1 x2 h1 h2
      have HV1 := Lib.hid h1
      have HV2 := Lib.hid h2
      have HBL := Lib.hid hbl
      clear h1 h2 hP hbl hX
      go_wp2_with fail
      refine bodyPost_ret (v := .agg #[.bool (Wh (prod ns)).neg, .slice pa (Wh (prod ns)).num.length ca, .slice pb (Wh (prod ns)).den.length cb]) (by simp [results, Try.results52, go_sem, r0, r1, r2]; rfl) rfl ?_
      exact retF1_end (x := Wh (prod ns)) HBL.out hR.out (fun _ h => by cases h) (fun _ h => by cases h) (Nat.le_refl _) HV1.out HV2.out
end Go.Proofs.Ytebmegodeglobaa

namespace Go.Proofs.Ytebmegodeglobaa
open Go.RowKit

/-- The sum of numbers. -/
def sums : List Nat → Nat
  | [] => 0
  | a :: l => a + sums l
theorem sums_snoc (l : List Nat) (a : Nat) : sums (l ++ [a]) = sums l + a := by
  induction l with
  | nil => simp [sums]
  | cons x l ih => simp only [List.cons_append, sums, ih, Nat.add_assoc]
theorem sums_take (l : List Nat) (i : Nat) (h : i < l.length) : sums (l.take (i + 1)) = sums (l.take i) + l[i] := by
  rw [List.take_add_one, List.getElem?_eq_getElem h]
  exact sums_snoc _ _

set_option maxRecDepth 100000 in
set_option maxHeartbeats 2000000 in
theorem tsum_t (w : World) (v : Value) (ns : List Nat) (h : SlF w v (ns.map Wh)) (h0 : 0 < ns.length) (hl : ns.length ≤ 100) (hn : ∀ n ∈ ns, (limbs n).length ≤ 32) (hp : ∀ i, i ≤ ns.length → (limbs (sums (ns.take i))).length ≤ 32) :
    Calls Try.prog 66 #[v] w (RetF1 w (Wh (sums ns))) := by
  have hh := h
  obtain ⟨b, cap, rfl, hc1, hc2, hcs⟩ := h
  have hlen : (ns.map Wh).length = ns.length := List.length_map _
  have hbl' := hh.lt (by omega)
  rw [hlen] at hc1
  rw [hlen]
  obtain ⟨W0, hW⟩ : ∃ W0, W0 = w.alloc (.cells #[.bool false, .slice none 0 0, .slice none 0 0] 26) := ⟨_, rfl⟩
  have hb0 : Below w.heap.size w W0 := hW ▸ (Below.refl w.heap.size w).alloc (Nat.le_refl _) _
  have br : Box W0 w.heap.size #[.bool false, .slice none 0 0, .slice none 0 0] 26 := hW ▸ Box.new w _ _
  have HB0 := Lib.hid hb0
  have BR := Lib.hid br
  have HP := Lib.hid hp
  have HN := Lib.hid hn
  have HCS := Lib.hid hcs
  clear hb0 br hh hlen hp hn hcs
  go_enter Try.func66, Try.ntmps66
  go_upto_region 1 with fail
  rw [← hW]
  clear hW
  go_wp2_with fail
  refine (whole_c _ 0 (by omega)).mono ?_
  rintro e w1 ⟨v1, rfl, hv1, hb1⟩
  obtain ⟨va, vb, rfl, h1, h2⟩ := hv1
  have bx1 := BR.out.after hb1
  have hlt0 := bx1.lt
  have BX1 := Lib.hid bx1
  have HV1 := Lib.hid h1
  have HV2 := Lib.hid h2
  obtain ⟨p, cp, rfl, _, _⟩ := h1.shape
  obtain ⟨q, cq, rfl, _, _⟩ := h2.shape
  have HB1 := Lib.hid (HB0.out.trans (hb1.mono HB0.out.size))
  clear bx1 h1 h2 hb1
  go_wp2_with fail
  go_loopg [9] (ns.length) (fun g t wx => ∃ (i : Nat) (va vb : Value), i ≤ ns.length ∧ g = ns.length - i ∧ t = .int .i64 (i : Int) ∧ Hid (Box wx w.heap.size #[.bool false, .slice none 0 0, .slice none 0 0] 26) ∧
    Box wx w1.heap.size #[.bool false, va, vb] 26 ∧ Hid (IsF wx (.agg #[.bool false, va, vb]) (Wh (sums (ns.take i)))) ∧ Below w.heap.size w wx)
  case atStart =>
    have hb := ((Below.refl w1.heap.size w1).alloc (Nat.le_refl _) (.cells #[.bool (Wh 0).neg, .slice p (Wh 0).num.length cp, .slice q (Wh 0).den.length cq] 26))
    refine ⟨0, .slice p (Wh 0).num.length cp, .slice q (Wh 0).den.length cq, Nat.zero_le _, rfl, rfl, BX1.out.after hb, Box.new _ _ _, ⟨_, _, rfl, HV1.out.after hb, HV2.out.after hb⟩, HB1.out.trans (hb.mono HB1.out.size)⟩
  case round =>
    obtain ⟨i, va, vb, hile, rfl, rfl, hR, hX, hP, hbl⟩ := hrel
    clear HV1 HV2 HB1 BX1 BR HB0
    obtain ⟨_, h1, h2⟩ := hP.out.parts
    obtain ⟨pa, ca, rfl, _, _⟩ := h1.shape
    obtain ⟨pb, cb, rfl, _, _⟩ := h2.shape
    by_cases hlt : i < ns.length
    · obtain ⟨vc, vd, g0, g1, g2, hs1, hs2⟩ := HCS.out i (Wh ns[i]) (by rw [List.getElem?_map, List.getElem?_eq_getElem hlt]; rfl)
      have hc0 := (hbl.cell (p := ⟨b, i * 3, none⟩) hbl').trans g0
      have hc1' := (hbl.cell (p := ⟨b, i * 3 + 1, none⟩) hbl').trans g1
      have hc2' := (hbl.cell (p := ⟨b, i * 3 + 2, none⟩) hbl').trans g2
      obtain ⟨x0, x1, x2⟩ := hX.cells3
      have hlx := hX.lt
      obtain ⟨pc, cc, rfl, _, _⟩ := hs1.shape
      obtain ⟨pd, cd, rfl, _, _⟩ := hs2.shape
      have hQ := hs1.after hbl
      have hQ2 := hs2.after hbl
      have HQ := Lib.hid (hQ.alloc (.cells #[.bool (Wh ns[i]).neg, .slice pc (Wh ns[i]).num.length cc, .slice pd (Wh ns[i]).den.length cd] 26))
      have HQ2 := Lib.hid (hQ2.alloc (.cells #[.bool (Wh ns[i]).neg, .slice pc (Wh ns[i]).num.length cc, .slice pd (Wh ns[i]).den.length cd] 26))
      have HP' := Lib.hid (hP.out.alloc (.cells #[.bool (Wh ns[i]).neg, .slice pc (Wh ns[i]).num.length cc, .slice pd (Wh ns[i]).den.length cd] 26))
      have hbl2 := hbl.alloc hbl.size (.cells #[.bool (Wh ns[i]).neg, .slice pc (Wh ns[i]).num.length cc, .slice pd (Wh ns[i]).den.length cd] 26)
      have HX2 := Lib.hid (hX.alloc (.cells #[.bool (Wh ns[i]).neg, .slice pc (Wh ns[i]).num.length cc, .slice pd (Wh ns[i]).den.length cd] 26))
      have HR2 := Lib.hid (hR.out.alloc (.cells #[.bool (Wh ns[i]).neg, .slice pc (Wh ns[i]).num.length cc, .slice pd (Wh ns[i]).den.length cd] 26))
      have HBL := Lib.hid hbl2
      have hsp : Hid (opF sumN (Wh (sums (ns.take i))) (Wh ns[i]) = (Wh (sums (ns.take (i + 1))), 0)) := by
        show _ = _
        rw [sums_take ns i hlt]
        exact add_wh (HP.out i hile) (HN.out _ (List.getElem_mem hlt)) (by rw [← sums_take ns i hlt]; exact HP.out (i + 1) hlt)
      clear g0 g1 g2 hs1 hs2 hQ hQ2 hbl2 hX hR hP h1 h2
      go_wp2_with fail
      refine (Add_c _ _ _ _ _ HP'.out ⟨_, _, rfl, HQ.out, HQ2.out⟩).mono ?_
      rw [hsp.out]
      rintro e w2 ⟨v2, rfl, hv2, hb2⟩
      obtain ⟨va2, vb2, rfl, h1, h2⟩ := hv2
      have hX3 := HX2.out.after hb2
      obtain ⟨x0, x1, x2⟩ := hX3.cells3
      have f0 := hX3.frozen 0
      have f1 := hX3.frozen 1
      have f2 := hX3.frozen 2
      have HX3 := Lib.hid hX3
      have HR3 := Lib.hid (HR2.out.after hb2)
      have HB3 := Lib.hid (HBL.out.trans (hb2.mono HBL.out.size))
      obtain ⟨p2, cp2, rfl, _, _⟩ := h1.shape
      obtain ⟨q2, cq2, rfl, _, _⟩ := h2.shape
      have HV1 := Lib.hid h1
      have HV2 := Lib.hid h2
      clear hc0 hc1' hc2' h1 h2 hb2 HX2 HR2 HBL HP' HQ HQ2 hsp hX3
      go_wp2_with fail
      go_roundg (ns.length - (i + 1))
      case measure => omega
      case rel => exact ⟨i + 1, .slice p2 (Wh (sums (ns.take (i + 1)))).num.length cp2, .slice q2 (Wh (sums (ns.take (i + 1)))).den.length cq2, hlt, rfl, by go_num, far_box HR3.out (by omega), end_box HX3.out, IsF.result HX3.out (fun _ h => by cases h) (fun _ h => by cases h) HV1.out HV2.out, ((HB3.out.setCell (p := ⟨w1.heap.size, 0, none⟩) (by simp; omega) _).setCell (p := ⟨w1.heap.size, 1, none⟩) (by simp; omega) _).setCell (p := ⟨w1.heap.size, 2, none⟩) (by simp; omega) _⟩
    · obtain rfl : i = ns.length := by omega
      obtain ⟨x0, x1, x2⟩ := hX.cells3
      obtain ⟨r0, r1, r2⟩ := hR.out.cells3
      have f0 := hR.out.frozen 0
      have f1 := hR.out.frozen 1
      have f2 := hR.out.frozen 2
      rw [List.take_length] at x1 x2 h1 h2
      have HV1 := Lib.hid h1
      have HV2 := Lib.hid h2
      have HBL := Lib.hid hbl
      clear h1 h2 hP hbl hX
      go_wp2_with fail
      refine bodyPost_ret (v := .agg #[.bool (Wh (sums ns)).neg, .slice pa (Wh (sums ns)).num.length ca, .slice pb (Wh (sums ns)).den.length cb]) (by simp [results, Try.results66, go_sem, r0, r1, r2]; rfl) rfl ?_
      exact retF1_end (x := Wh (sums ns)) HBL.out hR.out (fun _ h => by cases h) (fun _ h => by cases h) (Nat.le_refl _) HV1.out HV2.out

theorem whole_i (w : World) (z : Int) (n : Nat) (hz : z = n) (hn : n < 9223372036854775808) : Calls Try.prog 63 #[.int .i64 z] w (RetF1 w (Wh n)) := by subst hz; exact whole_c w n hn
/-- C(n, k), step by step. -/
theorem ch_step {n k i : Nat} (hk : k ≤ n) (h0 : 0 < i) (hi : i ≤ k) : ch (n - k + (i - 1)) (i - 1) * (n - k + i) = ch (n - k + i) i * i := by
  obtain ⟨j, rfl⟩ : ∃ j, i = j + 1 := ⟨i - 1, by omega⟩
  have h := ch_absorb (n - k + j) j
  rw [Nat.add_sub_cancel, ← Nat.add_assoc, Nat.mul_comm, ← h, Nat.mul_comm]
theorem ch_limbs {n k : Nat} (hn : n ≤ 64) : (limbs (ch n k)).length ≤ 3 := by
  apply limbs_len_lt
  have h1 := ch_le n k
  have h2 : 2 ^ n ≤ 2 ^ 64 := Nat.pow_le_pow_right (by omega) hn
  have h3 : (2 : Nat) ^ 64 < 4294967296 ^ 3 := by decide
  omega

theorem times2_t (w : World) (v : Value) (a b : Nat) (h : SlF w v [Wh a, Wh b]) (ha : (limbs a).length ≤ 32) (hb : (limbs b).length ≤ 32) (hab : (limbs (a * b)).length ≤ 32) :
    Calls Try.prog 52 #[v] w (RetF1 w (Wh (a * b))) := by
  have := times_t w v [a, b] h (by simp) (by simp) (by simp [ha, hb]) (fun i hi => by
    match i, hi with
    | 0, _ => show (limbs 1).length ≤ 32; rw [limbs_one_len]; omega
    | 1, _ => show (limbs (a * 1)).length ≤ 32; rw [Nat.mul_one]; exact ha
    | 2, _ => show (limbs (a * (b * 1))).length ≤ 32; rw [Nat.mul_one]; exact hab)
  rwa [show prod [a, b] = a * b from by simp [prod]] at this

set_option maxRecDepth 100000 in
set_option maxHeartbeats 2000000 in
theorem choose_t (w : World) (n k : Nat) (hk : k ≤ n) (hn : n ≤ 64) : Calls Try.prog 53 #[.int .i64 (n : Int), .int .i64 (k : Int)] w (RetF1 w (Wh (ch n k))) := by
  obtain ⟨W0, hW⟩ : ∃ W0, W0 = w.alloc (.cells #[.bool false, .slice none 0 0, .slice none 0 0] 26) := ⟨_, rfl⟩
  have hb0 : Below w.heap.size w W0 := hW ▸ (Below.refl w.heap.size w).alloc (Nat.le_refl _) _
  have br : Box W0 w.heap.size #[.bool false, .slice none 0 0, .slice none 0 0] 26 := hW ▸ Box.new w _ _
  have HB0 := Lib.hid hb0
  have BR := Lib.hid br
  clear hb0 br
  go_enter Try.func53, Try.ntmps53
  go_upto_region 1 with fail
  rw [← hW]
  clear hW
  go_wp2_with fail
  refine (whole_c _ 1 (by omega)).mono ?_
  rintro e w1 ⟨v1, rfl, hv1, hb1⟩
  obtain ⟨va, vb, rfl, h1, h2⟩ := hv1
  have bx1 := BR.out.after hb1
  have hlt0 := bx1.lt
  have BX1 := Lib.hid bx1
  have HV1 := Lib.hid h1
  have HV2 := Lib.hid h2
  obtain ⟨p, cp, rfl, _, _⟩ := h1.shape
  obtain ⟨q, cq, rfl, _, _⟩ := h2.shape
  have HB1 := Lib.hid (HB0.out.trans (hb1.mono HB0.out.size))
  clear bx1 h1 h2 hb1
  go_wp2_with fail
  go_loopg [6] (k + 1) (fun g t wx => ∃ (i : Nat) (va vb : Value), i ≤ k ∧ g = k - i + 1 ∧ t = .int .i64 ((i : Int) + 1) ∧ Hid (Box wx w.heap.size #[.bool false, .slice none 0 0, .slice none 0 0] 26) ∧
    Box wx w1.heap.size #[.bool false, va, vb] 26 ∧ Hid (IsF wx (.agg #[.bool false, va, vb]) (Wh (ch (n - k + i) i))) ∧ Below w.heap.size w wx)
  case atStart =>
    have hb := ((Below.refl w1.heap.size w1).alloc (Nat.le_refl _) (.cells #[.bool (Wh 1).neg, .slice p (Wh 1).num.length cp, .slice q (Wh 1).den.length cq] 26))
    refine ⟨0, .slice p (Wh 1).num.length cp, .slice q (Wh 1).den.length cq, Nat.zero_le _, rfl, rfl, BX1.out.after hb, Box.new _ _ _, ?_, HB1.out.trans (hb.mono HB1.out.size)⟩
    rw [ch_zero]
    exact ⟨_, _, rfl, HV1.out.after hb, HV2.out.after hb⟩
  case round =>
    obtain ⟨i, va, vb, hile, rfl, rfl, hR, hX, hP, hbl⟩ := hrel
    clear HV1 HV2 HB1 BX1 BR HB0
    obtain ⟨_, h1, h2⟩ := hP.out.parts
    obtain ⟨pa, ca, rfl, _, _⟩ := h1.shape
    obtain ⟨pb, cb, rfl, _, _⟩ := h2.shape
    obtain ⟨x0, x1, x2⟩ := hX.cells3
    have hlx := hX.lt
    by_cases hlt : i < k
    · have HX := Lib.hid hX
      have HP := Lib.hid hP.out
      have HBL := Lib.hid hbl
      have hz : Hid (IntKind.i64.wrap (IntKind.i64.wrap ((n : Int) - k) + ((i : Int) + 1)) = ((n - k + (i + 1) : Nat) : Int)) := by
        show _ = _
        rw [wrap_in (z := (n : Int) - k) (by omega) (by omega), wrap_in (by omega) (by omega)]
        omega
      have hz2 : Hid (n - k + (i + 1) < 9223372036854775808) := by show _ < _; omega
      have l1 : Hid ((limbs (ch (n - k + i) i)).length ≤ 32) := Nat.le_trans (ch_limbs (by omega)) (by omega)
      have l2 : Hid ((limbs (n - k + (i + 1))).length ≤ 32) := Nat.le_trans (limbs_mid (by omega)) (by omega)
      have l3 : Hid ((limbs (ch (n - k + i) i * (n - k + (i + 1)))).length ≤ 32) := Nat.le_trans (limbs_mul_len _ _) (by have := ch_limbs (n := n - k + i) (k := i) (by omega); have := limbs_mid (n := n - k + (i + 1)) (by omega); omega)
      clear hX hP hbl h1 h2
      go_upto_region 2 with fail
      go_region_with (first
         | (go_at_call 63; refine (whole_i _ _ (n - k + (i + 1)) hz.out hz2.out).mono ?_; rintro e w2 ⟨v2, rfl, hv2, hb1⟩; obtain ⟨vc, vd, rfl, h3, h4⟩ := hv2; obtain ⟨pc, cc, rfl, _, _⟩ := h3.shape; obtain ⟨pd, cd, rfl, _, _⟩ := h4.shape; have y0 := keep_cell (below_of_drew hb1) x0; have y1 := keep_cell (below_of_drew hb1) x1; have y2 := keep_cell (below_of_drew hb1) x2)
         | (go_at_call 52; refine (times2_t _ _ (ch (n - k + i) i) (n - k + (i + 1)) ?_ l1.out l2.out l3.out).mono ?_; exact SlF.two w2 (x := Wh (ch (n - k + i) i)) (y := Wh (n - k + (i + 1))) (HP.out.after (below_of_drew hb1)) ⟨_, _, rfl, h3, h4⟩ rfl _; rintro e w3 ⟨v3, rfl, hv3, hb3⟩; obtain ⟨ve, vf, rfl, h5, h6⟩ := hv3; obtain ⟨pe, ce, rfl, _, _⟩ := h5.shape; obtain ⟨pf, cf, rfl, _, _⟩ := h6.shape; have hbx := ((HX.out.after (below_of_drew hb1)).alloc _).after hb3; obtain ⟨z0, z1, z2⟩ := hbx.cells3; have f0 := hbx.frozen 0; have f1 := hbx.frozen 1; have f2 := hbx.frozen 2))
      all_goals
        have bw3 : Below w.heap.size w w3 := HBL.out.trans (((below_of_drew hb1).mono HBL.out.size).trans ((((Below.refl _ w2).alloc (Nat.le_refl _) _).trans (hb3.mono (by simp))).mono (Nat.le_trans HBL.out.size (below_of_drew hb1).size)))
        have hR3 := ((hR.out.after (below_of_drew hb1)).alloc _).after hb3
        obtain ⟨W3, hW3⟩ : ∃ W3, W3 = (((w3.setCell ⟨w1.heap.size, 0, none⟩ (.bool (Wh (ch (n - k + i) i * (n - k + (i + 1)))).neg)).setCell ⟨w1.heap.size, 1, none⟩ (.slice pe (Wh (ch (n - k + i) i * (n - k + (i + 1)))).num.length ce)).setCell ⟨w1.heap.size, 2, none⟩ (.slice pf (Wh (ch (n - k + i) i * (n - k + (i + 1)))).den.length cf)) := ⟨_, rfl⟩
        have HV3 := Lib.hid (hW3 ▸ IsF.result hbx (fun _ h => by cases h) (fun _ h => by cases h) h5 h6)
        have HX3 := Lib.hid (hW3 ▸ end_box hbx (y0 := .bool (Wh (ch (n - k + i) i * (n - k + (i + 1)))).neg) (y1 := .slice pe (Wh (ch (n - k + i) i * (n - k + (i + 1)))).num.length ce) (y2 := .slice pf (Wh (ch (n - k + i) i * (n - k + (i + 1)))).den.length cf))
        have HR3 := Lib.hid (hW3 ▸ far_box hR3 (y0 := .bool (Wh (ch (n - k + i) i * (n - k + (i + 1)))).neg) (y1 := .slice pe (Wh (ch (n - k + i) i * (n - k + (i + 1)))).num.length ce) (y2 := .slice pf (Wh (ch (n - k + i) i * (n - k + (i + 1)))).den.length cf) (show w.heap.size ≠ w1.heap.size by omega))
        have HB3 : Hid (Below w.heap.size w W3) := hW3 ▸ ((bw3.setCell (p := ⟨w1.heap.size, 0, none⟩) (by simp; omega) _).setCell (p := ⟨w1.heap.size, 1, none⟩) (by simp; omega) _).setCell (p := ⟨w1.heap.size, 2, none⟩) (by simp; omega) _
        have hcalc : ch (n - k + i) i * (n - k + (i + 1)) = ch (n - k + (i + 1)) (i + 1) * (i + 1) := ch_step hk (by omega) hlt
        have hl5 : (limbs (ch (n - k + (i + 1)) (i + 1))).length ≤ 32 := Nat.le_trans (ch_limbs (by omega)) (by omega)
        have hl6 : (limbs (i + 1)).length ≤ 32 := Nat.le_trans (limbs_mid (by omega)) (by omega)
        have HDIV := Lib.hid (div_wh l3.out hl6 (by omega) hcalc hl5)
        have hz3 : Hid (((i : Int) + 1) = ((i + 1 : Nat) : Int)) := by show _ = _; omega
        have hz4 : Hid (i + 1 < 9223372036854775808) := by show _ < _; omega
        rw [← hW3]
        clear hW3 bw3 hR3 hbx z0 z1 z2 f0 f1 f2 hb3 hb1 h3 h4 h5 h6 y0 y1 y2 x0 x1 x2 HX HP HBL hR hz hz2 l1 l2 l3 hcalc hl5 hl6
        generalize ch (n - k + i) i * (n - k + (i + 1)) = P at *
        obtain ⟨x0, x1, x2⟩ := HX3.out.cells3
        go_upto_region 1 with fail
        go_region_with (first
         | (go_at_call 63; refine (whole_i _ _ (i + 1) hz3.out hz4.out).mono ?_; rintro e w4 ⟨v4, rfl, hv4, hb4⟩; obtain ⟨vg, vh, rfl, h7, h8⟩ := hv4; obtain ⟨pg, cg, rfl, _, _⟩ := h7.shape; obtain ⟨ph, ch', rfl, _, _⟩ := h8.shape; have y0 := keep_cell (below_of_drew hb4) x0; have y1 := keep_cell (below_of_drew hb4) x1; have y2 := keep_cell (below_of_drew hb4) x2)
         | (go_at_call 34; refine (Div_c _ _ _ (Wh P) (Wh (i + 1)) (HV3.out.after (below_of_drew hb4)) ⟨_, _, rfl, h7, h8⟩).mono ?_; rw [HDIV.out]; rintro e w5 ⟨v5, rfl, hv5, hb5⟩; obtain ⟨vi, vj, rfl, h9, h10⟩ := hv5; obtain ⟨pi, ci, rfl, _, _⟩ := h9.shape; obtain ⟨pj, cj, rfl, _, _⟩ := h10.shape; have hb45 := (below_of_drew hb4).trans (hb5.mono (below_of_drew hb4).size); have hbx := HX3.out.after hb45; obtain ⟨z0, z1, z2⟩ := hbx.cells3; have f0 := hbx.frozen 0; have f1 := hbx.frozen 1; have f2 := hbx.frozen 2))
        all_goals
          have hR5 := HR3.out.after hb45
          have hB5 := HB3.out.trans (hb45.mono HB3.out.size)
          go_wp2_with fail
          go_roundg (k - (i + 1) + 1)
          case measure => omega
          case rel => exact ⟨i + 1, .slice pi (Wh (ch (n - k + (i + 1)) (i + 1))).num.length ci, .slice pj (Wh (ch (n - k + (i + 1)) (i + 1))).den.length cj, hlt, rfl, by go_num, far_box hR5 (by omega), end_box hbx, IsF.result hbx (fun _ h => by cases h) (fun _ h => by cases h) h9 h10, ((hB5.setCell (p := ⟨w1.heap.size, 0, none⟩) (by simp; omega) _).setCell (p := ⟨w1.heap.size, 1, none⟩) (by simp; omega) _).setCell (p := ⟨w1.heap.size, 2, none⟩) (by simp; omega) _⟩
    · obtain rfl : i = k := by omega
      rw [show n - i + i = n from by omega] at h1 h2 x1 x2 hP
      obtain ⟨r0, r1, r2⟩ := hR.out.cells3
      have f0 := hR.out.frozen 0
      have f1 := hR.out.frozen 1
      have f2 := hR.out.frozen 2
      have HV1 := Lib.hid h1
      have HV2 := Lib.hid h2
      have HBL := Lib.hid hbl
      clear h1 h2 hP hbl hX
      go_wp2_with fail
      refine bodyPost_ret (v := .agg #[.bool (Wh (ch n i)).neg, .slice pa (Wh (ch n i)).num.length ca, .slice pb (Wh (ch n i)).den.length cb]) (by simp [results, Try.results53, go_sem, r0, r1, r2]; rfl) rfl ?_
      exact retF1_end (x := Wh (ch n i)) HBL.out hR.out (fun _ h => by cases h) (fun _ h => by cases h) (Nat.le_refl _) HV1.out HV2.out
end Go.Proofs.Ytebmegodeglobaa

namespace Go.Proofs.Ytebmegodeglobaa
open Go.RowKit

theorem infoF : (Try.prog.info? 26).map (fun i => (i.zero, i.size, i.bytes)) = some (some (.agg #[.bool false, .slice none 0 0, .slice none 0 0]), 3, 56) := by kernel_rfl
theorem own_shape {w : World} {base n size : Nat} {t : TypeId} {v : Value} {xs : List Value} (h : w.ownsRow base t size v (n + 1) xs) : ∃ g cap, v = .slice (some ⟨g, 0, none⟩) (n + 1) cap := by
  rcases h.2 with ⟨_, h0⟩ | ⟨g, cap, _, rfl, _⟩
  · omega
  · exact ⟨g, cap, rfl⟩
theorem SlF.has {w : World} {g n cap : Nat} {xs : List F} (h : SlF w (.slice (some ⟨g, 0, none⟩) n cap) xs) {i : Nat} {x : F} (hx : xs[i]? = some x) : HasF w g (i * 3) x := by
  obtain ⟨b, cap', e, _, _, h4⟩ := h
  obtain ⟨rfl, _, _⟩ : g = b ∧ n = xs.length ∧ cap = cap' := by simpa using e
  exact h4 i x hx
theorem Box.grown {w w' : World} {b : Nat} {cs : Array Value} {t : TypeId} {row : Option Nat} (h : Box w b cs t) (hg : w.grownBy w' row) (hr : some b ≠ row) : Box w' b cs t := (hg.block b h.lt hr).trans h
theorem IsF.grown {w w' : World} {v : Value} {x : F} {row : Option Nat} (h : IsF w v x) (hg : w.grownBy w' row) (hr : ∀ g, row = some g → ¬ Tag32 w g) : IsF w' v x := by
  obtain ⟨va, vb, rfl, h1, h2⟩ := h
  exact ⟨va, vb, rfl, h1.grown hg hr, h2.grown hg hr⟩
/-- The powers 0 to n of a number. -/
def pows (a n : Nat) : List F := (List.range (n + 1)).map fun i => Wh (a ^ i)
theorem pows_len (a n : Nat) : (pows a n).length = n + 1 := by unfold pows; simp
theorem pows_get {a n i : Nat} (h : i ≤ n) : (pows a n)[i]? = some (Wh (a ^ i)) := by
  unfold pows
  rw [List.getElem?_map, List.getElem?_range (by omega)]; rfl
theorem pows_succ (a n : Nat) : pows a (n + 1) = pows a n ++ [Wh (a ^ (n + 1))] := by
  unfold pows
  rw [List.range_succ (n := n + 1), List.map_append]; rfl

set_option maxRecDepth 100000 in
set_option maxHeartbeats 4000000 in
theorem powers_t (w : World) (v : Value) (a n : Nat) (h : IsF w v (Wh a)) (hn : n ≤ 64) (ha : (limbs a).length ≤ 32) (hp : ∀ i, i ≤ n → (limbs (a ^ i)).length ≤ 32) :
    Calls Try.prog 50 #[v, .int .i64 (n : Int)] w fun e w' => ∃ u, e = .returned u ∧ SlF w' u (pows a n) ∧ Below w.heap.size w w' := by
  have HX := h
  obtain ⟨va, vb, rfl, h1, h2⟩ := h
  obtain ⟨W0, hW, bx, hsz, hb0⟩ : ∃ W0, W0 = w.alloc (.cells #[.bool (Wh a).neg, va, vb] 26) ∧ Box W0 w.heap.size #[.bool (Wh a).neg, va, vb] 26 ∧ w.heap.size < W0.heap.size ∧ Below w.heap.size w W0 :=
    ⟨_, rfl, Box.new w _ _, by simp, (Below.refl _ w).alloc (Nat.le_refl _) _⟩
  obtain ⟨p, cp, rfl, _, _⟩ := h1.shape
  obtain ⟨q, cq, rfl, _, _⟩ := h2.shape
  obtain ⟨i0, hi, hz0, hz1, hz2⟩ := info_parts infoF
  have hlm : Hid (maxLen = 9223372036854775807) := rfl
  have H1 := Lib.hid (HX.after hb0)
  have HB0 := Lib.hid hb0
  have BX := Lib.hid bx
  have HP := Lib.hid hp
  clear HX bx hb0 h1 h2 hp
  go_enter Try.func50, Try.ntmps50
  go_upto_region 1 with fail
  rw [← hW]
  clear hW
  go_wp2_with fail
  refine (whole_c _ 1 (by omega)).mono ?_
  rintro e w1 ⟨v1, rfl, hv1, hb1⟩
  obtain ⟨vc, vd, rfl, h3, h4⟩ := hv1
  obtain ⟨pc, cc, rfl, _, _⟩ := h3.shape
  obtain ⟨pd, cd, rfl, _, _⟩ := h4.shape
  have HB1 := Lib.hid (HB0.out.trans (hb1.mono HB0.out.size))
  have BX1 := Lib.hid (BX.out.after hb1)
  have H1' := Lib.hid (H1.out.after hb1)
  have hb3 := (Below.refl w1.heap.size w1).alloc (Nat.le_refl _) (.cells #[.bool (Wh 1).neg, .slice pc (Wh 1).num.length cc, .slice pd (Wh 1).den.length cd] 26)
  have hE : Hid (Ents (w1.alloc (.cells #[.bool (Wh 1).neg, .slice pc (Wh 1).num.length cc, .slice pd (Wh 1).den.length cd] 26)) [((Wh 1).neg, .slice pc (Wh 1).num.length cc, .slice pd (Wh 1).den.length cd)] (pows a 0)) := by
    have := Ents.snoc (x := Wh 1) (es := []) (xs := []) (w := w1) ⟨rfl, fun i x h => by simp at h⟩ h3 h4
    exact this.after hb3
  have hO := Lib.hid (ownsRow_one w1 (base := w.heap.size + 1) 26 (by have := HB1.out.size; have := hb1.size; omega) (.bool (Wh 1).neg) (.slice pc (Wh 1).num.length cc) (.slice pd (Wh 1).den.length cd))
  have hW1 : Below w.heap.size w (w1.alloc (.cells #[.bool (Wh 1).neg, .slice pc (Wh 1).num.length cc, .slice pd (Wh 1).den.length cd] 26)) := HB1.out.trans (hb3.mono HB1.out.size)
  have HW1 := Lib.hid hW1
  have hszw : w.heap.size + 1 ≤ w1.heap.size := by have := hb1.size; omega
  have BX2 := Lib.hid (BX1.out.alloc (.cells #[.bool (Wh 1).neg, .slice pc (Wh 1).num.length cc, .slice pd (Wh 1).den.length cd] 26))
  have H2' := Lib.hid (H1'.out.alloc (.cells #[.bool (Wh 1).neg, .slice pc (Wh 1).num.length cc, .slice pd (Wh 1).den.length cd] 26))
  clear HB1 BX1 H1' hb1 h3 h4 hb3 H1 HB0 BX hW1
  go_wp2_with fail
  go_loopg [5, 9] n (fun g o t wx => ∃ (i : Nat) (es : List (Bool × Value × Value)), i ≤ n ∧ g = n - i ∧ t = .int .i64 (i : Int) ∧ wx.ownsRow (w.heap.size + 1) 26 3 o (i + 1) (cellsF es) ∧ Hid (Ents wx es (pows a i)) ∧
    Hid (Box wx w.heap.size #[.bool (Wh a).neg, .slice p (Wh a).num.length cp, .slice q (Wh a).den.length cq] 26) ∧ Hid (IsF wx (.agg #[.bool (Wh a).neg, .slice p (Wh a).num.length cp, .slice q (Wh a).den.length cq]) (Wh a)) ∧ Hid (Below w.heap.size w wx) ∧ w.heap.size + 1 ≤ wx.heap.size)
  case atStart => exact ⟨0, [((Wh 1).neg, .slice pc (Wh 1).num.length cc, .slice pd (Wh 1).den.length cd)], Nat.zero_le _, rfl, rfl, hO.out, hE.out, BX2.out, H2'.out, HW1.out, by simp; omega⟩
  case round =>
    obtain ⟨i, es, hile, rfl, rfl, hown, hE', hbx, hx, hbl, hsz2⟩ := hrel
    obtain ⟨g, cap, rfl⟩ := own_shape hown
    clear hE hO HW1 BX2 H2'
    by_cases hlt : i < n
    · obtain ⟨vg, vh, g0, g1, g2, hs1, hs2⟩ := (SlF.of_own hown hE'.out (by rw [pows_len]; omega)).has (pows_get (Nat.le_refl i))
      obtain ⟨pg, cg, rfl, _, _⟩ := hs1.shape
      obtain ⟨ph, ch', rfl, _, _⟩ := hs2.shape
      obtain ⟨x0, x1, x2⟩ := hbx.out.cells3
      have hgl := hown.lt g rfl
      have hsum : IntKind.i64.wrap (((i : Int) + 1) - 1) = (i : Int) := by rw [wrap_in (by omega) (by omega)]; omega
      have hsum0 : IntKind.i64.wrap (i : Int) = (i : Int) := wrap_in (by omega) (by omega)
      have hi0' : (0 : Int) ≤ (i : Int) := Int.natCast_nonneg _
      have hi1' : (i : Int) < (i : Int) + 1 := by omega
      have HO := Lib.hid hown
      have hl1 : Hid ((limbs (a ^ i)).length ≤ 32) := HP.out i hile
      have hl2 : Hid ((limbs (a ^ i * a)).length ≤ 32) := by show _ ≤ _; rw [← Nat.pow_succ]; exact HP.out (i + 1) hlt
      have hS1 := Lib.hid hs1
      have hS2 := Lib.hid hs2
      clear hown hs1 hs2
      go_upto_region 2 with fail

      go_region_law
        (first
         | (refine step_append_lies _ (by rfl) _ _ _ (by rfl) (w.heap.size + 1) 26 i0 _ 3 56 Try.underlying97 hi hz0 hz1 hz2 rfl (by omega) (.slice (some ⟨g, 0, none⟩) (i + 1) cap) (i + 1) (cellsF es) (by rfl) (ownsRow_after HO.out hbB) ⟨w3.heap.size, 0, none⟩ 1 1 [.bool (Wh (a ^ i * a)).neg, .slice pe (Wh (a ^ i * a)).num.length ce, .slice pf (Wh (a ^ i * a)).den.length cf] (by rfl) (by rfl) (World.news_of_block (cs := #[.bool (Wh (a ^ i * a)).neg, .slice pe (Wh (a ^ i * a)).num.length ce, .slice pf (Wh (a ^ i * a)).den.length cf]) (t := 26) (fr := (0, 0)) (heap_alloc_new w3 _)) (by simp [Value.oneCell']) (by omega) (by rw [hlm.out]; omega) (by omega) (by have := hbA.size; simp; omega) (w3.heap.size + 1) (by simp) ?_; intro gg cap2 w5 hown5 hgrow hat hlt5; have hne : some w.heap.size ≠ (Value.slice (some ⟨g, 0, none⟩) (i + 1) cap).ownBlock := fun e => by have := congrArg (Option.getD · 0) e; simp [Value.ownBlock] at this; omega)
         | (go_simp; go_at_call 52; refine (times2_t _ _ (a ^ i) a ?_ hl1.out ha hl2.out).mono ?_; exact SlF.two wr (x := Wh (a ^ i)) (y := Wh a) ⟨_, _, rfl, hS1.out, hS2.out⟩ hx.out rfl _; rintro e w3 ⟨v3, rfl, hv3, hb3⟩; obtain ⟨ve, vf, rfl, h5, h6⟩ := hv3; obtain ⟨pe, ce, rfl, _, _⟩ := h5.shape; obtain ⟨pf, cf, rfl, _, _⟩ := h6.shape; have hbA := ((Below.refl wr.heap.size wr).alloc (Nat.le_refl _) _).trans ((below_of_drew hb3).mono (by simp)); have hbB := hbA.alloc hbA.size (.cells #[.bool (Wh (a ^ i * a)).neg, .slice pe (Wh (a ^ i * a)).num.length ce, .slice pf (Wh (a ^ i * a)).den.length cf] 26)))
      all_goals
        (have htag := ownsRow_tag (ownsRow_after HO.out hbB) (show 26 ≠ 95 by decide)
         have hE5 := Lib.hid (((hE'.out.after hbB).grown hgrow htag).snoc (x := Wh (a ^ i * a)) ((h5.alloc _).grown hgrow htag) ((h6.alloc _).grown hgrow htag))
         have hB5 := Lib.hid ((hbx.out.after hbB).grown hgrow hne)
         have hI5 := Lib.hid ((hx.out.after hbB).grown hgrow htag)
         have hW5 : Hid (Below w.heap.size w w5) := (hbl.out.trans (hbB.mono hbl.out.size)).grown hgrow (by have := hbl.out.size; have := hbB.size; omega) (fun k hk => by have := (HO.out.lt k hk).1; omega)
         have hO5 : Hid (w5.ownsRow (w.heap.size + 1) 26 3 (.slice (some ⟨gg, 0, none⟩) (i + 1 + 1) cap2) (i + 1 + 1) (cellsF (es ++ [((Wh (a ^ i * a)).neg, .slice pe (Wh (a ^ i * a)).num.length ce, .slice pf (Wh (a ^ i * a)).den.length cf)]))) := by
           show w5.ownsRow _ _ _ _ _ _
           rw [cellsF_snoc]
           exact hown5
         have hsz5 : w.heap.size + 1 ≤ w5.heap.size := by have := hbB.size; have := hgrow.size; omega
         have hpe : Hid (pows a i ++ [Wh (a ^ i * a)] = pows a (i + 1)) := by show _ = _; rw [pows_succ, Nat.pow_succ]
         clear hown5 hgrow hat hbA hbB hb3 h5 h6 htag g0 g1 g2 x0 x1 x2 hne
         go_wp2_with fail
         go_roundg (n - (i + 1))
         case measure => omega
         case rel => exact ⟨i + 1, _, hlt, rfl, by go_num, hO5.out, hpe.out ▸ hE5.out, hB5.out, hI5.out, hW5.out, hsz5⟩)
    · obtain rfl : i = n := by omega
      have hfin := Lib.hid (SlF.of_own hown hE'.out (by rw [pows_len]; omega))
      have hbl' := Lib.hid hbl.out
      clear hown hE'
      go_wp2_with fail
      go_ret
      exact ⟨_, rfl, hfin.out, hbl'.out⟩
end Go.Proofs.Ytebmegodeglobaa
