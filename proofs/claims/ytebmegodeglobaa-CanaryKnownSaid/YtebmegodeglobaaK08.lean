/- Walks: Mul, Div, Sub.
   Walks: Div.
   Walks: sign, order, Cmp.
   Binomial tails as numbers: the chance of exactly k failures out of n, and the tails, as parts of all. No program in sight.
   Whole numbers and parts as fractions: what the operations return at them. No program in sight but the operations' own names. -/
import Derived.Test.YtebmegodeglobaaK07
import Derived.Test.YtebmegodeglobaaK02
set_option linter.unusedVariables false
namespace Go.Proofs.Ytebmegodeglobaa
open Go.RowKit

/-- What is known behind a call that returns a fraction, where a result struct and two structs handed in wait. -/
theorem closeP_of {w1 W w6 : World} {R x y : Nat} {a0 b0 c0 d0 e0 f0 : Value} {r : F × Int} {e : Ending} (hb : Below w1.heap.size w1 W) (hR : Box w1 R #[.bool false, .slice none 0 0, .slice none 0 0] 26)
    (hs : W.cell? ⟨x, 0, none⟩ = some a0 ∧ W.cell? ⟨x, 1, none⟩ = some b0 ∧ W.cell? ⟨x, 2, none⟩ = some c0 ∧ W.cell? ⟨y, 0, none⟩ = some d0 ∧ W.cell? ⟨y, 1, none⟩ = some e0 ∧ W.cell? ⟨y, 2, none⟩ = some f0)
    (h : RetF W r e w6) : ∃ p cp q cq, e = .returned (.tuple #[.agg #[.bool r.1.neg, .slice p r.1.num.length cp, .slice q r.1.den.length cq], .int .i64 r.2]) ∧
      (w6.cell? ⟨x, 0, none⟩ = some a0 ∧ w6.cell? ⟨x, 1, none⟩ = some b0 ∧ w6.cell? ⟨x, 2, none⟩ = some c0 ∧ w6.cell? ⟨y, 0, none⟩ = some d0 ∧ w6.cell? ⟨y, 1, none⟩ = some e0 ∧ w6.cell? ⟨y, 2, none⟩ = some f0) ∧
      w6.cell? ⟨R, 0, none⟩ = some (.bool false) ∧ w6.cell? ⟨R, 1, none⟩ = some (.slice none 0 0) ∧ w6.cell? ⟨R, 2, none⟩ = some (.slice none 0 0) ∧ w6.frozen? ⟨R, 0, none⟩ = false ∧ w6.frozen? ⟨R, 1, none⟩ = false ∧ w6.frozen? ⟨R, 2, none⟩ = false ∧
      Hid (Sl w6 (.slice p r.1.num.length cp) r.1.num ∧ Sl w6 (.slice q r.1.den.length cq) r.1.den ∧ Box w6 R #[.bool false, .slice none 0 0, .slice none 0 0] 26 ∧ Below w1.heap.size w1 w6) := by
  obtain ⟨v6, rfl, hv6, hb6⟩ := h
  obtain ⟨va6, vb6, rfl, h61, h62⟩ := hv6
  obtain ⟨p, cp, rfl, _⟩ := h61.shape
  obtain ⟨q, cq, rfl, _⟩ := h62.shape
  have hbb := hb.trans (hb6.mono hb.size)
  have bx := hR.after hbb
  obtain ⟨r0, r1, r2⟩ := bx.cells3
  exact ⟨p, cp, q, cq, rfl, ⟨keep_cell hb6 hs.1, keep_cell hb6 hs.2.1, keep_cell hb6 hs.2.2.1, keep_cell hb6 hs.2.2.2.1, keep_cell hb6 hs.2.2.2.2.1, keep_cell hb6 hs.2.2.2.2.2⟩, r0, r1, r2, bx.frozen 0, bx.frozen 1, bx.frozen 2, ⟨h61, h62, bx, hbb⟩⟩

set_option maxRecDepth 100000 in
set_option maxHeartbeats 1000000 in
theorem Mul_c (w : World) (v u : Value) (x y : F) (h : IsF w v x) (k : IsF w u y) : Calls Try.prog 23 #[v, u] w (RetF w (opF mulN x y)) := by
  have HX := h
  have HY := k
  obtain ⟨va, vb, rfl, _, _⟩ := h
  obtain ⟨vc, vd, rfl, _, _⟩ := k
  obtain ⟨W0, hW, bx, by', br, hsz, hb0⟩ := start3 w #[.bool x.neg, va, vb] #[.bool y.neg, vc, vd] #[.bool false, .slice none 0 0, .slice none 0 0] 26
  obtain ⟨c0, c1, c2⟩ := bx.cells3
  obtain ⟨d0, d1, d2⟩ := by'.cells3
  have H1 := Lib.hid (HX.after hb0)
  have H2 := Lib.hid (HY.after hb0)
  have HB0 := Lib.hid hb0
  have BX := Lib.hid bx
  have BY := Lib.hid by'
  have BR := Lib.hid br
  clear HX HY bx by' br hb0
  by_cases hv : ValidF x ∧ ValidF y
  · have hv' := Lib.hid hv
    clear hv
    go_enter Try.func23, Try.ntmps23
    go_upto_region 1 with fail
    rw [← hW]
    clear hW
    go_wp2_with fail
    refine (both_c _ _ _ _ _ H1.out H2.out).mono ?_
    intro e w1 hr
    obtain ⟨rfl, hb1⟩ := hr.yes hv'.out
    obtain ⟨c0', c1', c2'⟩ := (BX.out.after hb1).cells3
    obtain ⟨d0', d1', d2'⟩ := (BY.out.after hb1).cells3
    have K1 := Lib.hid (H1.out.after hb1)
    have K2 := Lib.hid (H2.out.after hb1)
    have KW := Lib.hid hb1
    clear hr hb1 c0 c1 c2 d0 d1 d2 H1 H2
    have ex := hv'.out.1
    have ey := hv'.out.2
    have ok1 := ex.2.2
    have ok2 := ey.2.2
    obtain ⟨va', vb', e1, ha', hb'⟩ := K1.out
    obtain ⟨rfl, rfl⟩ : va = va' ∧ vb = vb' := by simpa using e1
    obtain ⟨vc', vd', e2, hc', hd'⟩ := K2.out
    obtain ⟨rfl, rfl⟩ : vc = vc' ∧ vd = vd' := by simpa using e2
    have ca := ex.1
    have cb := ex.2.1
    have cc := ey.1
    have cd := ey.2.1
    unfold Canon at ca cb cc cd
    rw [ca] at ha'
    rw [cb] at hb'
    rw [cc] at hc'
    rw [cd] at hd'
    have A1 := Lib.hid ha'
    have A2 := Lib.hid hb'
    have A3 := Lib.hid hc'
    have A4 := Lib.hid hd'
    have o1 := ok1.n32
    have o2 := ok1.d32
    have o3 := ok2.n32
    have o4 := ok2.d32
    have o5 := ok1.pos
    have o6 := ok2.pos
    have hspec : Hid (opF mulN x y = made (!(x.neg == y.neg)) (val x.num * val y.num) (val x.den * val y.den)) := by show _ = _; rw [opF_yes hv'.out]; rfl
    generalize hoo : opF mulN x y = o at *
    clear hoo
    clear e1 e2 ha' hb' hc' hd' ca cb cc cd ex ey ok1 ok2 K1 K2
    have BRX := Lib.hid (BR.out.after KW.out)
    generalize x.neg = n1 at *
    generalize y.neg = n2 at *
    generalize val x.num = a at *
    generalize val x.den = b at *
    generalize val y.num = c at *
    generalize val y.den = d at *
    have l1 : Hid ((limbs (a * c)).length ≤ 1000000) := Nat.le_trans (limbs_mul_len _ _) (by omega)
    have l2 : Hid ((limbs (b * d)).length ≤ 1000000) := Nat.le_trans (limbs_mul_len _ _) (by omega)
    have hpos : Hid (0 < b * d) := Nat.mul_pos o5 o6
    go_upto_region 3 with fail
    go_region_held3 (fun w' => w'.cell? ⟨w.heap.size, 0, none⟩ = some (.bool n1) ∧ w'.cell? ⟨w.heap.size, 1, none⟩ = some va ∧ w'.cell? ⟨w.heap.size, 2, none⟩ = some vb ∧
        w'.cell? ⟨w.heap.size + 1, 0, none⟩ = some (.bool n2) ∧ w'.cell? ⟨w.heap.size + 1, 1, none⟩ = some vc ∧ w'.cell? ⟨w.heap.size + 1, 2, none⟩ = some vd)
      (first | (refine keep6s ?_ ?_ s6; omega; omega) | go_keep | (exact s6) | (exact s5) | (exact s4) | (exact s3))
      (first
       | (go_at_call 37; refine (reduced_o _ _).mono ?_; rintro e w3 ⟨g, rfl, hg, hb3⟩; have s3 := keep6 hb3 c0' c1' c2' d0' d1' d2')
       | (go_at_call_of 40 va; refine (times_n _ va vc a c ?_ ?_ ?_ ?_).mono ?_; exact Sl.after (w := w1.drew) A1.out hb3; exact Sl.after (w := w1.drew) A3.out hb3; omega; omega; rintro e w4 ⟨vp, rfl, hp, hb4⟩; have s4 := keep6' hb4 s3)
       | (go_at_call_of 40 vb; refine (times_n _ vb vd b d ?_ ?_ ?_ ?_).mono ?_; exact (Sl.after (w := w1.drew) A2.out hb3).after hb4; exact (Sl.after (w := w1.drew) A4.out hb3).after hb4; omega; omega; rintro e w5 ⟨vq, rfl, hq, hb5⟩; have s5 := keep6' hb5 s4)
       | (go_at_call 55; refine (close_c w1 _ (w.heap.size + 2) g w.heap.size (w.heap.size + 1) vp vq (.bool n1) va vb (.bool n2) vc vd (!(n1 == n2)) (a * c) (b * d) o ?_ ?_ ?_ ?_ ?_ ?_ ?_ ?_ ?_ ?_).mono ?_; exact hspec.out; exact hp.after hb5; exact hq; exact hpos.out; exact keep_cell hb5 (keep_cell hb4 hg); exact l1.out; exact l2.out; exact below_of_drew (hb3.trans ((hb4.trans (hb5.mono hb4.size)).mono hb3.size)); exact BRX.out; exact s5; rintro e w6 ⟨p, cp, q, cq, rfl, s6, r0, r1, r2, f0, f1, f2, hfin⟩))
    obtain ⟨HVA, HVB, BX5, hbb⟩ := hfin.out
    have BW5 := HB0.out.trans ((KW.out.trans (hbb.mono KW.out.size)).mono HB0.out.size)
    have HVA := Lib.hid HVA
    have HVB := Lib.hid HVB
    have BX5 := Lib.hid BX5
    have BW5 := Lib.hid BW5
    clear hfin hb3 hb4 hb5 hbb s3 s4 s5 s6 hp hq hg
    go_wp2_with fail
    refine bodyPost_ret (v := .tuple #[.agg #[.bool o.1.neg, .slice p o.1.num.length cp, .slice q o.1.den.length cq], .int .i64 o.2]) (by simp [results, Try.results23, go_sem, r0, r1, r2]) rfl ?_
    exact ⟨_, rfl, IsF.result BX5.out (fun _ h => by cases h) (fun _ h => by cases h) HVA.out HVB.out, ((BW5.out.setCell (p := ⟨w.heap.size + 2, 0, none⟩) (by simp) _).setCell (p := ⟨w.heap.size + 2, 1, none⟩) (by simp) _).setCell (p := ⟨w.heap.size + 2, 2, none⟩) (by simp) _⟩
  · have hv' := Lib.hid hv
    clear hv
    go_enter Try.func23, Try.ntmps23
    go_upto_region 1 with fail
    rw [← hW]
    clear hW
    go_wp2_with fail
    refine (both_c _ _ _ _ _ H1.out H2.out).mono ?_
    intro e w1 hr
    obtain ⟨rfl, hb1⟩ := hr.no hv'.out
    have bx5 := BR.out.after hb1
    obtain ⟨r0, r1, r2⟩ := bx5.cells3
    have f0 := bx5.frozen 0
    have f1 := bx5.frozen 1
    have f2 := bx5.frozen 2
    have BW5 := Lib.hid (HB0.out.trans (hb1.mono HB0.out.size))
    clear hr hb1 c0 c1 c2 d0 d1 d2 H1 H2 bx5
    go_wp2_with fail
    refine bodyPost_ret (v := .tuple #[.agg #[.bool false, .slice none 0 0, .slice none 0 0], .int .i64 1]) (by simp [results, Try.results23, go_sem, r0, r1, r2]) rfl ?_
    rw [opF_no (g := mulN) hv'.out]
    exact ⟨_, rfl, IsF.zero _, ((BW5.out.setCell (p := ⟨w.heap.size + 2, 0, none⟩) (by simp) _).setCell (p := ⟨w.heap.size + 2, 1, none⟩) (by simp) _).setCell (p := ⟨w.heap.size + 2, 2, none⟩) (by simp) _⟩
set_option maxRecDepth 100000 in
set_option maxHeartbeats 1000000 in
theorem Sub_c (w : World) (v u : Value) (x y : F) (h : IsF w v x) (k : IsF w u y) : Calls Try.prog 49 #[v, u] w (RetF w (opF subN x y)) := by
  have HX := h
  have HY := k
  obtain ⟨va, vb, rfl, _, _⟩ := h
  obtain ⟨vc, vd, rfl, _, _⟩ := k
  obtain ⟨W0, hW, bx, by', br, hsz, hb0⟩ := start3 w #[.bool x.neg, va, vb] #[.bool y.neg, vc, vd] #[.bool false, .slice none 0 0, .slice none 0 0] 26
  obtain ⟨c0, c1, c2⟩ := bx.cells3
  obtain ⟨d0, d1, d2⟩ := by'.cells3
  have H1 := Lib.hid (HX.after hb0)
  have H2 := Lib.hid (HY.after hb0)
  have HB0 := Lib.hid hb0
  have BX := Lib.hid bx
  have BY := Lib.hid by'
  have BR := Lib.hid br
  clear HX HY bx by' br hb0
  by_cases hv : ValidF x ∧ ValidF y
  · have hv' := Lib.hid hv
    clear hv
    go_enter Try.func49, Try.ntmps49
    go_upto_region 1 with fail
    rw [← hW]
    clear hW
    go_wp2_with fail
    refine (both_c _ _ _ _ _ H1.out H2.out).mono ?_
    intro e w1 hr
    obtain ⟨rfl, hb1⟩ := hr.yes hv'.out
    obtain ⟨c0', c1', c2'⟩ := (BX.out.after hb1).cells3
    obtain ⟨d0', d1', d2'⟩ := (BY.out.after hb1).cells3
    have K1 := Lib.hid (H1.out.after hb1)
    have K2 := Lib.hid (H2.out.after hb1)
    have KW := Lib.hid hb1
    clear hr hb1 c0 c1 c2 d0 d1 d2 H1 H2
    have ex := hv'.out.1
    have ey := hv'.out.2
    have ok1 := ex.2.2
    have ok2 := ey.2.2
    obtain ⟨va', vb', e1, ha', hb'⟩ := K1.out
    obtain ⟨rfl, rfl⟩ : va = va' ∧ vb = vb' := by simpa using e1
    obtain ⟨vc', vd', e2, hc', hd'⟩ := K2.out
    obtain ⟨rfl, rfl⟩ : vc = vc' ∧ vd = vd' := by simpa using e2
    have ca := ex.1
    have cb := ex.2.1
    have cc := ey.1
    have cd := ey.2.1
    unfold Canon at ca cb cc cd
    rw [ca] at ha'
    rw [cb] at hb'
    rw [cc] at hc'
    rw [cd] at hd'
    have A1 := Lib.hid ha'
    have A2 := Lib.hid hb'
    have A3 := Lib.hid hc'
    have A4 := Lib.hid hd'
    have o1 := ok1.n32
    have o2 := ok1.d32
    have o3 := ok2.n32
    have o4 := ok2.d32
    have o5 := ok1.pos
    have o6 := ok2.pos
    have hspec : Hid (opF subN x y = sumN x.neg (val x.num) (val x.den) (!y.neg && decide (0 < y.num.length)) (val y.num) (val y.den)) := by
      show _ = _
      rw [opF_yes hv'.out]
      unfold subN
      have : decide (0 < y.num.length) = decide (0 < val y.num) := by
        rw [cc]
        have e := limbs_len_zero (n := val y.num)
        rw [val_limbs]
        rw [decide_eq_decide]
        omega
      rw [this]
    generalize hoo : opF subN x y = o at *
    clear hoo
    have hX : Hid (IsF w1 (.agg #[.bool x.neg, va, vb]) (fr x.neg (val x.num) (val x.den))) := ⟨va, vb, rfl, ha', hb'⟩
    have hY : Hid (IsF w1 (.agg #[.bool y.neg, vc, vd]) y) := K2.out
    have ht : Hid (turnF y = fr (!y.neg && decide (0 < y.num.length)) (val y.num) (val y.den)) := by
      show _ = _
      unfold turnF fr
      rw [← cc, ← cd]
    clear e1 e2 ha' hb' hc' hd' ca cb cc cd ex ey ok1 ok2 K1 K2 A1 A2 A3 A4
    have BRX := Lib.hid (BR.out.after KW.out)
    go_upto_region 3 with fail
    go_region_held3 (fun w' => w'.cell? ⟨w.heap.size, 0, none⟩ = some (.bool x.neg) ∧ w'.cell? ⟨w.heap.size, 1, none⟩ = some va ∧ w'.cell? ⟨w.heap.size, 2, none⟩ = some vb ∧
        w'.cell? ⟨w.heap.size + 1, 0, none⟩ = some (.bool y.neg) ∧ w'.cell? ⟨w.heap.size + 1, 1, none⟩ = some vc ∧ w'.cell? ⟨w.heap.size + 1, 2, none⟩ = some vd)
      (first | (refine keep6s ?_ ?_ s6; omega; omega) | go_keep | (exact s6) | (exact s3))
      (first
       | (go_at_call 71; refine (turned_c _ _ y ?_).mono ?_; exact hY.out; rw [ht.out]; rintro e w3 ⟨vt, rfl, hvt, hb3⟩; have s3 := keep6 hb3 c0' c1' c2' d0' d1' d2')
       | (go_at_call 39; refine (sum_c _ _ _ x.neg _ (val x.num) (val x.den) (val y.num) (val y.den) ?_ hvt o5 o6 ?_ ?_ ?_ ?_).mono ?_; exact IsF.after (w := w1.drew) hX.out hb3; omega; omega; omega; omega; rw [← hspec.out]; intro e w6 h6; obtain ⟨p, cp, q, cq, rfl, s6, r0, r1, r2, f0, f1, f2, hfin⟩ := closeP_of (below_of_drew hb3) BRX.out s3 h6))
    obtain ⟨HVA, HVB, BX5, hbb⟩ := hfin.out
    have BW5 := HB0.out.trans ((KW.out.trans (hbb.mono KW.out.size)).mono HB0.out.size)
    have HVA := Lib.hid HVA
    have HVB := Lib.hid HVB
    have BX5 := Lib.hid BX5
    have BW5 := Lib.hid BW5
    clear hfin hb3 hbb s3 s6 hvt h6
    go_wp2_with fail
    refine bodyPost_ret (v := .tuple #[.agg #[.bool o.1.neg, .slice p o.1.num.length cp, .slice q o.1.den.length cq], .int .i64 o.2]) (by simp [results, Try.results49, go_sem, r0, r1, r2]) rfl ?_
    exact ⟨_, rfl, IsF.result BX5.out (fun _ h => by cases h) (fun _ h => by cases h) HVA.out HVB.out, ((BW5.out.setCell (p := ⟨w.heap.size + 2, 0, none⟩) (by simp) _).setCell (p := ⟨w.heap.size + 2, 1, none⟩) (by simp) _).setCell (p := ⟨w.heap.size + 2, 2, none⟩) (by simp) _⟩
  · have hv' := Lib.hid hv
    clear hv
    go_enter Try.func49, Try.ntmps49
    go_upto_region 1 with fail
    rw [← hW]
    clear hW
    go_wp2_with fail
    refine (both_c _ _ _ _ _ H1.out H2.out).mono ?_
    intro e w1 hr
    obtain ⟨rfl, hb1⟩ := hr.no hv'.out
    have bx5 := BR.out.after hb1
    obtain ⟨r0, r1, r2⟩ := bx5.cells3
    have f0 := bx5.frozen 0
    have f1 := bx5.frozen 1
    have f2 := bx5.frozen 2
    have BW5 := Lib.hid (HB0.out.trans (hb1.mono HB0.out.size))
    clear hr hb1 c0 c1 c2 d0 d1 d2 H1 H2 bx5
    go_wp2_with fail
    refine bodyPost_ret (v := .tuple #[.agg #[.bool false, .slice none 0 0, .slice none 0 0], .int .i64 1]) (by simp [results, Try.results49, go_sem, r0, r1, r2]) rfl ?_
    rw [opF_no (g := subN) hv'.out]
    exact ⟨_, rfl, IsF.zero _, ((BW5.out.setCell (p := ⟨w.heap.size + 2, 0, none⟩) (by simp) _).setCell (p := ⟨w.heap.size + 2, 1, none⟩) (by simp) _).setCell (p := ⟨w.heap.size + 2, 2, none⟩) (by simp) _⟩
end Go.Proofs.Ytebmegodeglobaa

namespace Go.Proofs.Ytebmegodeglobaa
open Go.RowKit

set_option maxRecDepth 100000 in
set_option maxHeartbeats 4000000 in
theorem Div_c (w : World) (v u : Value) (x y : F) (h : IsF w v x) (k : IsF w u y) : Calls Try.prog 34 #[v, u] w (RetF w (opF divN x y)) := by
  have HX := h
  have HY := k
  obtain ⟨va, vb, rfl, _, _⟩ := h
  obtain ⟨vc, vd, rfl, kc, _⟩ := k
  obtain ⟨pc, cpc, rfl, hpc1, hpc2⟩ := kc.shape
  clear kc
  obtain ⟨W0, hW, bx, by', br, hsz, hb0⟩ := start3 w #[.bool x.neg, va, vb] #[.bool y.neg, .slice pc y.num.length cpc, vd] #[.bool false, .slice none 0 0, .slice none 0 0] 26
  obtain ⟨c0, c1, c2⟩ := bx.cells3
  obtain ⟨d0, d1, d2⟩ := by'.cells3
  have H1 := Lib.hid (HX.after hb0)
  have H2 := Lib.hid (HY.after hb0)
  have HB0 := Lib.hid hb0
  have BX := Lib.hid bx
  have BY := Lib.hid by'
  have BR := Lib.hid br
  clear HX HY bx by' br hb0
  by_cases hv : ValidF x ∧ ValidF y
  · have hv' := Lib.hid hv
    clear hv
    go_enter Try.func34, Try.ntmps34
    go_upto_region 1 with fail
    rw [← hW]
    clear hW
    go_wp2_with fail
    refine (both_c _ _ _ _ _ H1.out H2.out).mono ?_
    intro e w1 hr
    obtain ⟨rfl, hb1⟩ := hr.yes hv'.out
    obtain ⟨c0', c1', c2'⟩ := (BX.out.after hb1).cells3
    obtain ⟨d0', d1', d2'⟩ := (BY.out.after hb1).cells3
    have K1 := Lib.hid (H1.out.after hb1)
    have K2 := Lib.hid (H2.out.after hb1)
    have KW := Lib.hid hb1
    clear hr hb1 c0 c1 c2 d0 d1 d2 H1 H2
    have hyc : y.num = limbs (val y.num) := hv'.out.2.1
    by_cases hcz : val y.num = 0
    · have hspec : Hid (opF divN x y = (F0, 2)) := by show _ = _; rw [opF_yes hv'.out]; unfold divN; rw [if_pos hcz]
      have hl0 : y.num.length ≤ 0 := by rw [hyc, hcz, limbs_zero]; exact Nat.le_refl _
      obtain ⟨r0, r1, r2⟩ := (BR.out.after KW.out).cells3
      have f0 := (BR.out.after KW.out).frozen 0
      have f1 := (BR.out.after KW.out).frozen 1
      have f2 := (BR.out.after KW.out).frozen 2
      have BW5 := Lib.hid (HB0.out.trans (KW.out.mono HB0.out.size))
      clear hcz hyc hpc1
      go_wp2_with fail
      refine bodyPost_ret (v := .tuple #[.agg #[.bool false, .slice none 0 0, .slice none 0 0], .int .i64 2]) (by simp [results, Try.results34, go_sem, r0, r1, r2]) rfl ?_
      rw [hspec.out]
      exact ⟨_, rfl, IsF.zero _, ((BW5.out.setCell (p := ⟨w.heap.size + 2, 0, none⟩) (by simp) _).setCell (p := ⟨w.heap.size + 2, 1, none⟩) (by simp) _).setCell (p := ⟨w.heap.size + 2, 2, none⟩) (by simp) _⟩
    have hcz' := hcz
    have hcp : 0 < val y.num := by omega
    have hylen : 0 < y.num.length := by rw [hyc]; exact limbs_len_pos hcp
    clear hcz hyc
    have ex := hv'.out.1
    have ey := hv'.out.2
    have ok1 := ex.2.2
    have ok2 := ey.2.2
    obtain ⟨va', vb', e1, ha', hb'⟩ := K1.out
    obtain ⟨rfl, rfl⟩ : va = va' ∧ vb = vb' := by simpa using e1
    obtain ⟨vc', vd', e2, hc', hd'⟩ := K2.out
    obtain ⟨rfl, rfl⟩ : Value.slice pc y.num.length cpc = vc' ∧ vd = vd' := by simpa using e2
    have ca := ex.1
    have cb := ex.2.1
    have cc := ey.1
    have cd := ey.2.1
    unfold Canon at ca cb cc cd
    rw [ca] at ha'
    rw [cb] at hb'
    replace hc' : Sl w1 (.slice pc y.num.length cpc) (limbs (val y.num)) := by rw [← cc]; exact hc'
    rw [cd] at hd'
    have A1 := Lib.hid ha'
    have A2 := Lib.hid hb'
    have A3 := Lib.hid hc'
    have A4 := Lib.hid hd'
    have o1 := ok1.n32
    have o2 := ok1.d32
    have o3 := ok2.n32
    have o4 := ok2.d32
    have o5 := ok1.pos
    have o6 := ok2.pos
    have hspec : Hid (opF divN x y = made (!(x.neg == y.neg)) (val x.num * val y.den) (val x.den * val y.num)) := by show _ = _; rw [opF_yes hv'.out]; unfold divN; rw [if_neg hcz']
    generalize hoo : opF divN x y = o at *
    clear hoo
    clear e1 e2 ha' hb' hc' hd' ca cb cc cd ex ey ok1 ok2 K1 K2
    have BRX := Lib.hid (BR.out.after KW.out)
    generalize x.neg = n1 at *
    generalize y.neg = n2 at *
    generalize val x.num = a at *
    generalize val x.den = b at *
    generalize val y.num = c at hspec o3 o4 A3 hcz' hcp
    generalize val y.den = d at *
    have l1 : Hid ((limbs (a * d)).length ≤ 1000000) := Nat.le_trans (limbs_mul_len _ _) (by omega)
    have l2 : Hid ((limbs (b * c)).length ≤ 1000000) := Nat.le_trans (limbs_mul_len _ _) (by omega)
    have hpos : Hid (0 < b * c) := Nat.mul_pos o5 hcp
    clear hcz'
    go_upto_region 5 with fail
    go_region_held3 (fun w' => w'.cell? ⟨w.heap.size, 0, none⟩ = some (.bool n1) ∧ w'.cell? ⟨w.heap.size, 1, none⟩ = some va ∧ w'.cell? ⟨w.heap.size, 2, none⟩ = some vb ∧
        w'.cell? ⟨w.heap.size + 1, 0, none⟩ = some (.bool n2) ∧ w'.cell? ⟨w.heap.size + 1, 1, none⟩ = some (.slice pc y.num.length cpc) ∧ w'.cell? ⟨w.heap.size + 1, 2, none⟩ = some vd)
      (first | (refine keep6s ?_ ?_ s6; omega; omega) | go_keep | (exact s6) | (exact s5) | (exact s4) | (exact s3))
      (first
       | (go_at_call 37; refine (reduced_o _ _).mono ?_; rintro e w3 ⟨g, rfl, hg, hb3⟩; have s3 := keep6 hb3 c0' c1' c2' d0' d1' d2')
       | (go_at_call_of 40 va; refine (times_n _ va vd a d ?_ ?_ ?_ ?_).mono ?_; exact Sl.after (w := w1.drew) A1.out hb3; exact Sl.after (w := w1.drew) A4.out hb3; omega; omega; rintro e w4 ⟨vp, rfl, hp, hb4⟩; have s4 := keep6' hb4 s3)
       | (go_at_call_of 40 vb; refine (times_n _ vb (.slice pc y.num.length cpc) b c ?_ ?_ ?_ ?_).mono ?_; exact (Sl.after (w := w1.drew) A2.out hb3).after hb4; exact (Sl.after (w := w1.drew) A3.out hb3).after hb4; omega; omega; rintro e w5 ⟨vq, rfl, hq, hb5⟩; have s5 := keep6' hb5 s4)
       | (go_at_call 55; refine (close_c w1 _ (w.heap.size + 2) g w.heap.size (w.heap.size + 1) vp vq (.bool n1) va vb (.bool n2) (.slice pc y.num.length cpc) vd (!(n1 == n2)) (a * d) (b * c) o ?_ ?_ ?_ ?_ ?_ ?_ ?_ ?_ ?_ ?_).mono ?_; exact hspec.out; exact hp.after hb5; exact hq; exact hpos.out; exact keep_cell hb5 (keep_cell hb4 hg); exact l1.out; exact l2.out; exact below_of_drew (hb3.trans ((hb4.trans (hb5.mono hb4.size)).mono hb3.size)); exact BRX.out; exact s5; rintro e w6 ⟨p, cp, q, cq, rfl, s6, r0, r1, r2, f0, f1, f2, hfin⟩))
    obtain ⟨HVA, HVB, BX5, hbb⟩ := hfin.out
    have BW5 := HB0.out.trans ((KW.out.trans (hbb.mono KW.out.size)).mono HB0.out.size)
    have HVA := Lib.hid HVA
    have HVB := Lib.hid HVB
    have BX5 := Lib.hid BX5
    have BW5 := Lib.hid BW5
    clear hfin hb3 hb4 hb5 hbb s3 s4 s5 s6 hp hq hg
    go_wp2_with fail
    refine bodyPost_ret (v := .tuple #[.agg #[.bool o.1.neg, .slice p o.1.num.length cp, .slice q o.1.den.length cq], .int .i64 o.2]) (by simp [results, Try.results34, go_sem, r0, r1, r2]) rfl ?_
    exact ⟨_, rfl, IsF.result BX5.out (fun _ h => by cases h) (fun _ h => by cases h) HVA.out HVB.out, ((BW5.out.setCell (p := ⟨w.heap.size + 2, 0, none⟩) (by simp) _).setCell (p := ⟨w.heap.size + 2, 1, none⟩) (by simp) _).setCell (p := ⟨w.heap.size + 2, 2, none⟩) (by simp) _⟩
  · have hv' := Lib.hid hv
    clear hv
    go_enter Try.func34, Try.ntmps34
    go_upto_region 1 with fail
    rw [← hW]
    clear hW
    go_wp2_with fail
    refine (both_c _ _ _ _ _ H1.out H2.out).mono ?_
    intro e w1 hr
    obtain ⟨rfl, hb1⟩ := hr.no hv'.out
    have bx5 := BR.out.after hb1
    obtain ⟨r0, r1, r2⟩ := bx5.cells3
    have f0 := bx5.frozen 0
    have f1 := bx5.frozen 1
    have f2 := bx5.frozen 2
    have BW5 := Lib.hid (HB0.out.trans (hb1.mono HB0.out.size))
    clear hr hb1 c0 c1 c2 d0 d1 d2 H1 H2 bx5
    go_wp2_with fail
    refine bodyPost_ret (v := .tuple #[.agg #[.bool false, .slice none 0 0, .slice none 0 0], .int .i64 1]) (by simp [results, Try.results34, go_sem, r0, r1, r2]) rfl ?_
    rw [opF_no (g := divN) hv'.out]
    exact ⟨_, rfl, IsF.zero _, ((BW5.out.setCell (p := ⟨w.heap.size + 2, 0, none⟩) (by simp) _).setCell (p := ⟨w.heap.size + 2, 1, none⟩) (by simp) _).setCell (p := ⟨w.heap.size + 2, 2, none⟩) (by simp) _⟩
end Go.Proofs.Ytebmegodeglobaa

namespace Go.Proofs.Ytebmegodeglobaa
open Go.RowKit

/-- The sign of a number. -/
def sgnZ (n : Int) : Int := if n < 0 then -1 else if n = 0 then 0 else 1
theorem sgnZ_b (n : Int) : -1 ≤ sgnZ n ∧ sgnZ n ≤ 1 := by unfold sgnZ; split; omega; split <;> omega

set_option maxHeartbeats 400000 in
theorem sign_c (w : World) (n : Int) : Calls Try.prog 85 #[.int .i64 n] w fun e w' => e = .returned (.int .i64 (sgnZ n)) ∧ w' = w := by
  rcases Int.lt_trichotomy n 0 with h | h | h
  · go_enter Try.func85, Try.ntmps85
    go_wp2
    go_ret
    refine ⟨ret_int ?_, rfl⟩
    unfold sgnZ; (repeat' split) <;> omega
  · subst h
    go_enter Try.func85, Try.ntmps85
    go_wp2
    go_ret
    exact ⟨rfl, rfl⟩
  · go_enter Try.func85, Try.ntmps85
    go_wp2
    go_ret
    refine ⟨ret_int ?_, rfl⟩
    unfold sgnZ; (repeat' split) <;> omega

/-- How two valid fractions compare. -/
def ordN (n1 : Bool) (a b : Nat) (n2 : Bool) (c d : Nat) : Int :=
  if n1 = n2 then (if n1 = true then - (if a * d < c * b then -1 else if a * d = c * b then 0 else 1) else (if a * d < c * b then -1 else if a * d = c * b then 0 else 1)) else if n1 = true then -1 else 1
theorem ordN_eq {n1 n2 : Bool} {a b c d : Nat} {r : Int} (h : CmpR (limbs (a * d)) (limbs (c * b)) r) (hn : n1 = n2) : ordN n1 a b n2 c d = if n1 = true then - sgnZ r else sgnZ r := by
  have h1 := h.lt
  have h2 := h.eq
  unfold ordN sgnZ
  rw [if_pos hn]
  by_cases g1 : r < 0
  · have g2 := h1.1 g1
    simp [g1, g2]
  · have g2 : ¬ a * d < c * b := fun e => g1 (h1.2 e)
    by_cases g3 : r = 0
    · have g4 := h2.1 g3
      simp [g3, g4]
    · have g4 : ¬ a * d = c * b := fun e => g3 (h2.2 e)
      simp [g1, g2, g3, g4]

set_option maxRecDepth 100000 in
set_option maxHeartbeats 1000000 in
theorem order_c (w : World) (v u : Value) (n1 n2 : Bool) (a b c d : Nat) (h : IsF w v (fr n1 a b)) (k : IsF w u (fr n2 c d))
    (la : (limbs a).length ≤ 1000) (lb : (limbs b).length ≤ 1000) (lc : (limbs c).length ≤ 1000) (ld : (limbs d).length ≤ 1000) :
    Calls Try.prog 84 #[v, u] w fun e w' => e = .returned (.int .i64 (ordN n1 a b n2 c d)) ∧ Below w.heap.size w w' := by
  obtain ⟨va, vb, rfl, ha', hb'⟩ := h
  obtain ⟨vc, vd, rfl, hc', hd'⟩ := k
  simp only [fr] at ha' hb' hc' hd'
  simp only [fr]
  obtain ⟨W0, hW, bx, by', hsz, hb0⟩ := start2 w #[.bool n1, va, vb] #[.bool n2, vc, vd] 26
  obtain ⟨c0, c1, c2⟩ := bx.cells3
  obtain ⟨d0, d1, d2⟩ := by'.cells3
  have H1 := Lib.hid (ha'.after hb0)
  have H2 := Lib.hid (hb'.after hb0)
  have H3 := Lib.hid (hc'.after hb0)
  have H4 := Lib.hid (hd'.after hb0)
  have HB0 := Lib.hid hb0
  clear ha' hb' hc' hd' bx by' hb0
  by_cases hn : n1 = n2
  · subst hn
    go_enter Try.func84, Try.ntmps84
    go_upto_region 1 with fail
    rw [← hW]
    clear hW
    go_upto_region 2 with fail
    go_region_held3 (fun w' => w'.cell? ⟨w.heap.size, 1, none⟩ = some va ∧ w'.cell? ⟨w.heap.size + 1, 2, none⟩ = some vd ∧ w'.cell? ⟨w.heap.size + 1, 1, none⟩ = some vc ∧ w'.cell? ⟨w.heap.size, 2, none⟩ = some vb)
      (first
       | go_keep
       | (exact ⟨keep_cell hb1 c1, keep_cell hb1 d2, keep_cell hb1 d1, keep_cell hb1 c2⟩)
       | (exact ⟨keep_cell hb2 (keep_cell hb1 c1), keep_cell hb2 (keep_cell hb1 d2), keep_cell hb2 (keep_cell hb1 d1), keep_cell hb2 (keep_cell hb1 c2)⟩))
      (first
       | (go_at_call_of 40 va; refine (times_n _ va vd a d ?_ ?_ ?_ ?_).mono ?_; exact H1.out; exact H4.out; omega; omega; rintro e w1 ⟨vp, rfl, hp, hb1⟩)
       | (go_at_call_of 40 vc; refine (times_n _ vc vb c b ?_ ?_ ?_ ?_).mono ?_; exact Sl.after (w := W0.drew) H3.out hb1; exact Sl.after (w := W0.drew) H2.out hb1; omega; omega; rintro e w2 ⟨vq, rfl, hq, hb2⟩)
       | (go_at_call 85; refine (sign_c _ _).mono ?_; rintro e w4 ⟨rfl, rfl⟩)
       | (go_at_call 60; refine (compare_c _ vp vq (limbs (a * d)) (limbs (c * b)) (hp.after hb2) hq).mono ?_; rintro e w3 ⟨r, rfl, hr, n3, rfl⟩))
    have hbW : Below W0.heap.size W0 w2 := below_of_drew (hb1.trans (hb2.mono hb1.size))
    have x0 := keep_cell hbW c0
    have hfr : Hid (Below w.heap.size w w2) := HB0.out.trans (hbW.mono HB0.out.size)
    have hspec := Lib.hid (ordN_eq (n1 := n1) (n2 := n1) hr rfl)
    obtain ⟨s, hs⟩ : ∃ s, sgnZ r = s := ⟨_, rfl⟩
    have hs1 := sgnZ_b r
    rw [hs] at hspec hs1 ⊢
    obtain ⟨hs1, hs2⟩ := hs1
    clear hs hr hb1 hb2 hp hq c0 c1 c2 d0 d1 d2 H1 H2 H3 H4 hbW
    cases n1 with
    | true =>
      go_wp2_with fail
      go_ret
      exact ⟨ret_int (by rw [hspec.out]; rfl), hfr.out.trans (below_drewN _ _ _)⟩
    | false =>
      go_wp2_with fail
      go_ret
      exact ⟨ret_int (by rw [hspec.out]; rfl), hfr.out.trans (below_drewN _ _ _)⟩
  · have hn' := Lib.hid hn
    go_enter Try.func84, Try.ntmps84
    go_upto_region 1 with fail
    rw [← hW]
    clear hW
    cases n1 <;> cases n2 <;> first | exact absurd rfl hn | skip
    all_goals clear hn
    · go_wp2_with fail
      go_ret
      exact ⟨ret_int rfl, HB0.out⟩
    · go_wp2_with fail
      go_ret
      exact ⟨ret_int rfl, HB0.out⟩

/-- What Cmp returns. -/
noncomputable def cmpF (x y : F) : Int × Int := open Classical in if ValidF x ∧ ValidF y then (ordN x.neg (val x.num) (val x.den) y.neg (val y.num) (val y.den), 0) else (0, 1)
theorem cmpF_yes {x y : F} (h : ValidF x ∧ ValidF y) : cmpF x y = (ordN x.neg (val x.num) (val x.den) y.neg (val y.num) (val y.den), 0) := by unfold cmpF; rw [if_pos h]
theorem cmpF_no {x y : F} (h : ¬ (ValidF x ∧ ValidF y)) : cmpF x y = (0, 1) := by unfold cmpF; rw [if_neg h]

set_option maxRecDepth 100000 in
set_option maxHeartbeats 1000000 in
theorem Cmp_c (w : World) (v u : Value) (x y : F) (h : IsF w v x) (k : IsF w u y) :
    Calls Try.prog 80 #[v, u] w fun e w' => e = .returned (.tuple #[.int .i64 (cmpF x y).1, .int .i64 (cmpF x y).2]) ∧ Below w.heap.size w w' := by
  have HX := h
  have HY := k
  obtain ⟨va, vb, rfl, _, _⟩ := h
  obtain ⟨vc, vd, rfl, _, _⟩ := k
  obtain ⟨W0, hW, bx, by', hsz, hb0⟩ := start2 w #[.bool x.neg, va, vb] #[.bool y.neg, vc, vd] 26
  obtain ⟨c0, c1, c2⟩ := bx.cells3
  obtain ⟨d0, d1, d2⟩ := by'.cells3
  have H1 := Lib.hid (HX.after hb0)
  have H2 := Lib.hid (HY.after hb0)
  have HB0 := Lib.hid hb0
  have BX := Lib.hid bx
  have BY := Lib.hid by'
  clear HX HY bx by' hb0
  by_cases hv : ValidF x ∧ ValidF y
  · have hv' := Lib.hid hv
    have hsp := Lib.hid (cmpF_yes hv)
    clear hv
    go_enter Try.func80, Try.ntmps80
    go_upto_region 1 with fail
    rw [← hW]
    clear hW
    go_wp2_with fail
    refine (both_c _ _ _ _ _ H1.out H2.out).mono ?_
    intro e w1 hr
    obtain ⟨rfl, hb1⟩ := hr.yes hv'.out
    obtain ⟨c0', c1', c2'⟩ := (BX.out.after hb1).cells3
    obtain ⟨d0', d1', d2'⟩ := (BY.out.after hb1).cells3
    have K1 := Lib.hid (H1.out.after hb1)
    have K2 := Lib.hid (H2.out.after hb1)
    have KW := Lib.hid hb1
    clear hr hb1 c0 c1 c2 d0 d1 d2 H1 H2
    go_wp2_with fail
    have ex := hv'.out.1
    have ey := hv'.out.2
    have K1' := K1.out
    have K2' := K2.out
    rw [ex.eq] at K1'
    rw [ey.eq] at K2'
    have ok1 := ex.2.2
    have ok2 := ey.2.2
    refine (order_c w1 _ _ x.neg y.neg (val x.num) (val x.den) (val y.num) (val y.den) (by simpa only [fr] using K1') (by simpa only [fr] using K2') (by have := ok1.n32; omega) (by have := ok1.d32; omega) (by have := ok2.n32; omega) (by have := ok2.d32; omega)).mono ?_
    rintro e w5 ⟨rfl, hb5⟩
    have hbb := Lib.hid (HB0.out.trans ((KW.out.trans (hb5.mono KW.out.size)).mono HB0.out.size))
    clear hb5 ex ey K1' K2' ok1 ok2
    go_wp2_with fail
    go_ret2
    exact ⟨by rw [hsp.out]; rfl, hbb.out⟩
  · have hv' := Lib.hid hv
    have hsp := Lib.hid (cmpF_no hv)
    clear hv
    go_enter Try.func80, Try.ntmps80
    go_upto_region 1 with fail
    rw [← hW]
    clear hW
    go_wp2_with fail
    refine (both_c _ _ _ _ _ H1.out H2.out).mono ?_
    intro e w1 hr
    obtain ⟨rfl, hb1⟩ := hr.no hv'.out
    have hbb := Lib.hid (HB0.out.trans (hb1.mono HB0.out.size))
    clear hr hb1 c0 c1 c2 d0 d1 d2 H1 H2
    go_wp2_with fail
    go_ret2
    exact ⟨by rw [hsp.out]; rfl, hbb.out⟩
end Go.Proofs.Ytebmegodeglobaa

namespace Go.Proofs.Ytebmegodeglobaa

/-- C(n, k). -/
def ch : Nat → Nat → Nat
  | _, 0 => 1
  | 0, _ + 1 => 0
  | n + 1, k + 1 => ch n k + ch n (k + 1)
theorem ch_zero (n : Nat) : ch n 0 = 1 := by cases n <;> rfl
theorem ch_succ (n k : Nat) : ch (n + 1) (k + 1) = ch n k + ch n (k + 1) := rfl
theorem ch_gt : ∀ (n k : Nat), n < k → ch n k = 0
  | 0, k + 1, _ => rfl
  | n + 1, k + 1, h => by rw [ch_succ, ch_gt n k (by omega), ch_gt n (k + 1) (by omega)]
theorem ch_self : ∀ n : Nat, ch n n = 1
  | 0 => rfl
  | n + 1 => by rw [ch_succ, ch_self n, ch_gt n (n + 1) (by omega)]
theorem ch_absorb : ∀ N j : Nat, (j + 1) * ch (N + 1) (j + 1) = (N + 1) * ch N j
  | 0, 0 => rfl
  | 0, j + 1 => by rw [ch_succ, ch_gt 0 (j + 1) (by omega), ch_gt 0 (j + 1 + 1) (by omega)]; simp
  | N + 1, 0 => by
    have h := ch_absorb N 0
    rw [ch_zero] at h ⊢
    rw [ch_succ, ch_zero]
    omega
  | N + 1, j + 1 => by
    have h1 := ch_absorb N (j + 1)
    have h2 := ch_absorb N j
    have e : (j + 1 + 1) * ch (N + 1 + 1) (j + 1 + 1) = (j + 1 + 1) * ch (N + 1) (j + 1) + (j + 1 + 1) * ch (N + 1) (j + 1 + 1) := by rw [ch_succ (N + 1) (j + 1), Nat.mul_add]
    have e3 : (j + 1 + 1) * ch (N + 1) (j + 1) = (j + 1) * ch (N + 1) (j + 1) + ch (N + 1) (j + 1) := by rw [Nat.add_mul, Nat.one_mul]
    have e4 : (N + 1 + 1) * ch (N + 1) (j + 1) = (N + 1) * ch (N + 1) (j + 1) + ch (N + 1) (j + 1) := by rw [Nat.add_mul, Nat.one_mul]
    have e5 : (N + 1) * ch (N + 1) (j + 1) = (N + 1) * ch N j + (N + 1) * ch N (j + 1) := by rw [ch_succ N j, Nat.mul_add]
    rw [e, h1, e3, h2, e4, e5]
    omega
theorem ch_symm : ∀ a b : Nat, ch (a + b) a = ch (a + b) b
  | 0, b => by rw [Nat.zero_add, ch_zero, ch_self]
  | a + 1, 0 => by rw [Nat.add_zero, ch_zero, ch_self]
  | a + 1, b + 1 => by
    have h1 := ch_symm a (b + 1)
    have h2 := ch_symm (a + 1) b
    have e : a + 1 + (b + 1) = (a + (b + 1)) + 1 := by omega
    have e2 : a + (b + 1) = a + 1 + b := by omega
    rw [e, ch_succ, ch_succ, h1, e2, h2]
    omega
theorem ch_flip {n k : Nat} (h : k ≤ n) : ch n (n - k) = ch n k := by
  have := ch_symm (n - k) k
  rwa [Nat.sub_add_cancel h] at this
theorem ch_le : ∀ n k : Nat, ch n k ≤ 2 ^ n
  | 0, 0 => by simp [ch]
  | 0, k + 1 => by simp [ch]
  | n + 1, 0 => by rw [ch_zero]; exact Nat.one_le_two_pow
  | n + 1, k + 1 => by
    have h1 := ch_le n k
    have h2 := ch_le n (k + 1)
    rw [ch_succ, Nat.pow_succ]
    omega
theorem ch_pos : ∀ {n k : Nat}, k ≤ n → 0 < ch n k
  | n, 0, _ => by rw [ch_zero]; omega
  | n + 1, k + 1, h => by have := ch_pos (n := n) (k := k) (by omega); rw [ch_succ]; omega

/-- The part of all of exactly k failures: a is the part of a failure, c the part of a success. -/
def ex (a c n k : Nat) : Nat := a ^ k * c ^ (n - k) * ch n k
theorem ex_gt {a c n k : Nat} (h : n < k) : ex a c n k = 0 := by unfold ex; rw [ch_gt n k h, Nat.mul_zero]
theorem ex_zero (a c n : Nat) : ex a c (n + 1) 0 = c * ex a c n 0 := by
  unfold ex; rw [ch_zero, ch_zero, Nat.pow_zero, Nat.sub_zero, Nat.sub_zero, Nat.pow_succ, Nat.one_mul, Nat.one_mul, Nat.mul_one, Nat.mul_one, Nat.mul_comm]
theorem ex_succ (a c n k : Nat) : ex a c (n + 1) (k + 1) = a * ex a c n k + c * ex a c n (k + 1) := by
  rcases Nat.lt_or_ge k n with h | h
  · have e1 : n + 1 - (k + 1) = n - (k + 1) + 1 := by omega
    have e2 : n - k = n - (k + 1) + 1 := by omega
    unfold ex
    rw [ch_succ, e1, e2, Nat.pow_succ, Nat.pow_succ]
    generalize a ^ k = p
    generalize c ^ (n - (k + 1)) = q
    generalize ch n k = r
    generalize ch n (k + 1) = s
    rw [Nat.mul_add]
    simp only [Nat.mul_left_comm, Nat.mul_comm]
  · rcases Nat.lt_or_ge n k with h2 | h2
    · rw [ex_gt (show n + 1 < k + 1 by omega), ex_gt h2, ex_gt (show n < k + 1 by omega)]; simp
    · obtain rfl : k = n := by omega
      rw [ex_gt (show k < k + 1 by omega)]
      unfold ex
      rw [ch_self, ch_self, Nat.sub_self, Nat.sub_self, Nat.pow_succ]
      simp [Nat.mul_comm]

/-- The tail at k, as a part of all. -/
def tl (a c n k : Nat) : Nat := if k ≤ n then ex a c n k + tl a c n (k + 1) else 0
termination_by n + 1 - k
theorem tl_le {a c n k : Nat} (h : k ≤ n) : tl a c n k = ex a c n k + tl a c n (k + 1) := by rw [tl, if_pos h]
theorem tl_gt {a c n k : Nat} (h : n < k) : tl a c n k = 0 := by rw [tl, if_neg (by omega)]
theorem tl_rec (a c n : Nat) : ∀ d k : Nat, n + 1 - k ≤ d → tl a c (n + 1) (k + 1) = a * tl a c n k + c * tl a c n (k + 1)
  | 0, k, h => by rw [tl_gt (show n + 1 < k + 1 by omega), tl_gt (show n < k by omega), tl_gt (show n < k + 1 by omega)]; simp
  | d + 1, k, h => by
    rcases Nat.lt_or_ge n k with h2 | h2
    · rw [tl_gt (show n + 1 < k + 1 by omega), tl_gt h2, tl_gt (show n < k + 1 by omega)]; simp
    · have ih := tl_rec a c n d (k + 1) (by omega)
      rw [tl_le (show k + 1 ≤ n + 1 by omega), ih, ex_succ, tl_le h2]
      rcases Nat.lt_or_ge n (k + 1) with h3 | h3
      · rw [tl_gt h3, tl_gt (show n < k + 1 + 1 by omega), ex_gt h3]; simp
      · have e1 : a * (ex a c n k + tl a c n (k + 1)) = a * ex a c n k + a * tl a c n (k + 1) := Nat.mul_add _ _ _
        have e2 : c * tl a c n (k + 1) = c * ex a c n (k + 1) + c * tl a c n (k + 1 + 1) := by rw [tl_le h3, Nat.mul_add]
        rw [e1, e2]; omega
theorem tl_succ (a c n k : Nat) : tl a c (n + 1) (k + 1) = a * tl a c n k + c * tl a c n (k + 1) := tl_rec a c n _ k (Nat.le_refl _)
theorem tl_all (a c : Nat) : ∀ n : Nat, tl a c n 0 = (a + c) ^ n
  | 0 => by rw [tl_le (Nat.le_refl 0), tl_gt (by omega)]; simp [ex, ch]
  | n + 1 => by
    have ih := tl_all a c n
    rw [tl_le (Nat.zero_le _), tl_succ, ex_zero, Nat.pow_succ, ← ih]
    have e : c * tl a c n 0 = c * ex a c n 0 + c * tl a c n 1 := by rw [tl_le (Nat.zero_le n), Nat.mul_add]
    have e2 : tl a c n 0 * (a + c) = a * tl a c n 0 + c * tl a c n 0 := by rw [Nat.mul_add, Nat.mul_comm, Nat.mul_comm (tl a c n 0) c]
    rw [e2, e]
    simp only [Nat.zero_add]
    omega
theorem tl_anti (a c n k : Nat) : tl a c n (k + 1) ≤ tl a c n k := by
  rcases Nat.lt_or_ge n k with h | h
  · rw [tl_gt h, tl_gt (by omega)]; omega
  · rw [tl_le h]; omega
theorem tl_anti' (a c n : Nat) {i j : Nat} (h : i ≤ j) : tl a c n j ≤ tl a c n i := by
  induction h with
  | refl => exact Nat.le_refl _
  | step _ ih => exact Nat.le_trans (tl_anti a c n _) ih
theorem tl_all_le (a c n k : Nat) : tl a c n k ≤ (a + c) ^ n := by rw [← tl_all]; exact tl_anti' a c n (Nat.zero_le _)
theorem ex_le_tl (a c n k : Nat) : ex a c n k ≤ tl a c n k := by
  rcases Nat.lt_or_ge n k with h | h
  · rw [ex_gt h]; omega
  · rw [tl_le h]; omega
theorem ex_all_le (a c n k : Nat) : ex a c n k ≤ (a + c) ^ n := Nat.le_trans (ex_le_tl a c n k) (tl_all_le a c n k)
theorem tl_more (a c n k : Nat) : (a + c) * tl a c n k ≤ tl a c (n + 1) k := by
  cases k with
  | zero => rw [tl_all, tl_all, Nat.pow_succ, Nat.mul_comm]; exact Nat.le_refl _
  | succ k =>
    rw [tl_succ, Nat.add_mul]
    exact Nat.add_le_add_right (Nat.mul_le_mul_left _ (tl_anti a c n k)) _
theorem tl_rate {a c a' c' : Nat} (hs : a + c = a' + c') (ha : a ≤ a') : ∀ n k : Nat, tl a c n k ≤ tl a' c' n k
  | n, 0 => by rw [tl_all, tl_all, hs]; exact Nat.le_refl _
  | 0, k + 1 => by rw [tl_gt (by omega)]; omega
  | n + 1, k + 1 => by
    rw [tl_succ, tl_succ]
    have h1 := Nat.mul_le_mul_left a (tl_rate hs ha n k)
    have h2 := Nat.mul_le_mul_left c (tl_rate hs ha n (k + 1))
    have h3 := Nat.mul_le_mul_left (a' - a) (tl_anti a' c' n k)
    have e1 : a' = a + (a' - a) := by omega
    have e2 : c = c' + (a' - a) := by omega
    have e3 : a' * tl a' c' n k = a * tl a' c' n k + (a' - a) * tl a' c' n k := by rw [← Nat.add_mul, ← e1]
    have e4 : c * tl a' c' n (k + 1) = c' * tl a' c' n (k + 1) + (a' - a) * tl a' c' n (k + 1) := by rw [← Nat.add_mul, ← e2]
    omega
theorem tl_scale (g a c : Nat) : ∀ n k : Nat, tl (g * a) (g * c) n k = g ^ n * tl a c n k
  | n, 0 => by rw [tl_all, tl_all, ← Nat.mul_add, Nat.mul_pow]
  | 0, k + 1 => by rw [tl_gt (by omega), tl_gt (by omega), Nat.mul_zero]
  | n + 1, k + 1 => by
    rw [tl_succ, tl_succ, tl_scale g a c n k, tl_scale g a c n (k + 1), Nat.pow_succ, Nat.mul_add]
    simp only [Nat.mul_assoc, Nat.mul_left_comm, Nat.mul_comm]
theorem tl_turn (a c : Nat) : ∀ n k : Nat, k ≤ n + 1 → tl a c n k + tl c a n (n + 1 - k) = (a + c) ^ n
  | n, 0, _ => by rw [tl_all, tl_gt (show n < n + 1 - 0 by omega)]; omega
  | 0, k + 1, h => by
    obtain rfl : k = 0 := by omega
    rw [tl_gt (by omega), show (0 + 1 - (0 + 1)) = 0 from rfl, tl_all]; simp
  | n + 1, k + 1, h => by
    rcases Nat.lt_or_ge k (n + 1) with h2 | h2
    · have h3 := tl_turn a c n k (by omega)
      have h4 := tl_turn a c n (k + 1) (by omega)
      have e : n + 1 + 1 - (k + 1) = (n - k) + 1 := by omega
      have e1 : n + 1 - k = n - k + 1 := by omega
      have e2 : n + 1 - (k + 1) = n - k := by omega
      rw [e1] at h3
      rw [e2] at h4
      rw [e, tl_succ, tl_succ, Nat.pow_succ]
      have p1 : (a + c) ^ n * a = a * tl a c n k + a * tl c a n (n - k + 1) := by rw [← h3, Nat.mul_comm, Nat.mul_add]
      have p2 : (a + c) ^ n * c = c * tl a c n (k + 1) + c * tl c a n (n - k) := by rw [← h4, Nat.mul_comm, Nat.mul_add]
      rw [Nat.mul_add, p1, p2]
      omega
    · obtain rfl : k = n + 1 := by omega
      rw [tl_gt (by omega), Nat.sub_self, tl_all, Nat.add_comm c a]; omega

/-- Exactly and the tails, scaled. -/
theorem ex_scale (g a c n k : Nat) (h : k ≤ n) : ex (g * a) (g * c) n k = g ^ n * ex a c n k := by
  unfold ex
  rw [Nat.mul_pow, Nat.mul_pow]
  have e : g ^ n = g ^ k * g ^ (n - k) := by rw [← Nat.pow_add]; congr 1; omega
  rw [e]
  simp only [Nat.mul_assoc, Nat.mul_left_comm]
theorem pow_limbs {b n : Nat} (hb : b ≤ 1000) (hn : n ≤ 64) : (limbs (b ^ n)).length ≤ 20 := by
  apply limbs_len_lt
  have h1 : b ^ n ≤ 1000 ^ n := Nat.pow_le_pow_left hb n
  have h2 : 1000 ^ n ≤ 1000 ^ 64 := Nat.pow_le_pow_right (by omega) hn
  have h3 : (1000 : Nat) ^ 64 < 4294967296 ^ 20 := by decide
  omega
end Go.Proofs.Ytebmegodeglobaa

namespace Go.Proofs.Ytebmegodeglobaa

/-- A whole number. -/
def Wh (n : Nat) : F := fr false n 1
theorem limbs_one_len : (limbs 1).length = 1 := by rw [limbs_one]; rfl
theorem ok_wh {n : Nat} (h : (limbs n).length ≤ 32) : Ok false n 1 := ⟨h, by rw [limbs_one_len]; omega, by omega, Nat.gcd_one_right n, fun _ => rfl⟩
theorem valid_wh {n : Nat} (h : (limbs n).length ≤ 32) : ValidF (Wh n) := validF_fr.2 (ok_wh h)
theorem made_one {n : Nat} (h : (limbs n).length ≤ 32) : made false n 1 = (Wh n, 0) := by
  unfold made Wh
  rw [Nat.gcd_one_right, Nat.div_one, Nat.div_one, limbs_one_len, if_neg (by omega)]
  rfl
theorem made_dvd {n d q : Nat} (hd : 0 < d) (he : n = q * d) (h : (limbs q).length ≤ 32) : made false n d = (Wh q, 0) := by
  subst he
  have hg : Nat.gcd (q * d) d = d := Nat.gcd_mul_left_left q d
  unfold made Wh
  rw [hg, Nat.mul_div_cancel q hd, Nat.div_self hd, limbs_one_len, if_neg (by omega)]
  rfl
theorem opF_fr {g : Bool → Nat → Nat → Bool → Nat → Nat → F × Int} {n1 n2 : Bool} {a b c d : Nat} (h : Ok n1 a b) (k : Ok n2 c d) : opF g (fr n1 a b) (fr n2 c d) = g n1 a b n2 c d := by
  rw [opF_yes ⟨validF_fr.2 h, validF_fr.2 k⟩]
  simp only [fr, val_limbs]
theorem mul_wh {a b : Nat} (ha : (limbs a).length ≤ 32) (hb : (limbs b).length ≤ 32) (h : (limbs (a * b)).length ≤ 32) : opF mulN (Wh a) (Wh b) = (Wh (a * b), 0) := by
  unfold Wh
  rw [opF_fr (ok_wh ha) (ok_wh hb)]
  exact made_one h
theorem add_wh {a b : Nat} (ha : (limbs a).length ≤ 32) (hb : (limbs b).length ≤ 32) (h : (limbs (a + b)).length ≤ 32) : opF sumN (Wh a) (Wh b) = (Wh (a + b), 0) := by
  unfold Wh
  rw [opF_fr (ok_wh ha) (ok_wh hb)]
  unfold sumN
  rw [if_pos rfl, Nat.mul_one, Nat.mul_one]
  exact made_one h
theorem div_wh {a b q : Nat} (ha : (limbs a).length ≤ 32) (hb : (limbs b).length ≤ 32) (hb0 : 0 < b) (he : a = q * b) (h : (limbs q).length ≤ 32) : opF divN (Wh a) (Wh b) = (Wh q, 0) := by
  unfold Wh
  rw [opF_fr (ok_wh ha) (ok_wh hb)]
  unfold divN
  rw [if_neg (by omega), Nat.mul_one, Nat.one_mul]
  exact made_dvd hb0 he h
/-- A quotient of whole numbers: the same fraction as the reference makes. -/
theorem div_made {a b : Nat} (ha : (limbs a).length ≤ 32) (hb : (limbs b).length ≤ 32) (hb0 : 0 < b) : opF divN (Wh a) (Wh b) = made false a b := by
  unfold Wh
  rw [opF_fr (ok_wh ha) (ok_wh hb)]
  unfold divN
  rw [if_neg (by omega), Nat.mul_one, Nat.one_mul]
  rfl
theorem sub_wh {a b : Nat} (ha : (limbs a).length ≤ 32) (hb : (limbs b).length ≤ 32) (hle : b ≤ a) : opF subN (Wh a) (Wh b) = (Wh (a - b), 0) := by
  have h : (limbs (a - b)).length ≤ 32 := Nat.le_trans (limbs_len_mono (Nat.sub_le a b)) ha
  unfold Wh
  rw [opF_fr (ok_wh ha) (ok_wh hb)]
  unfold subN sumN
  rcases Nat.eq_zero_or_pos b with h0 | h0
  · subst h0
    simp only [Nat.lt_irrefl, decide_false, Bool.and_false, if_true, Nat.mul_one, Nat.add_zero, Nat.sub_zero]
    exact made_one ha
  · have e : (!false && decide (0 < b)) = true := by simp [h0]
    rw [e, if_neg (by simp), Nat.mul_one, Nat.mul_one, if_neg (by omega)]
    exact made_one h
/-- The program's Of at whole numbers. -/
theorem of_wh {n : Nat} (h : (limbs n).length ≤ 32) : ofF (n : Int) 1 = (Wh n, 0) := by
  unfold ofF
  rw [if_neg (by omega)]
  have e : (!(decide ((n : Int) < 0) == decide ((1 : Int) < 0))) = false := by
    have : ¬ ((n : Int) < 0) := by omega
    simp [this]
  rw [e]
  exact made_one h
theorem limbs_mid {n : Nat} (h : n < 18446744073709551616) : (limbs n).length ≤ 2 := limbs_len_lt (k := 2) (by omega)
end Go.Proofs.Ytebmegodeglobaa
