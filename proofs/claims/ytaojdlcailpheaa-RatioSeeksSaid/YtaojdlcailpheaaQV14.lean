/- Walks of the reference: Div. -/
import Derived.Test.YtaojdlcailpheaaQV12
set_option linter.unusedVariables false
namespace Go.Proofs.Ytaojdlcailpheaa
open Go.RowKit

set_option maxRecDepth 100000 in
set_option maxHeartbeats 4000000 in
theorem rDiv_c (w : World) (v u : Value) (x y : F) (h : IsF w v x) (k : IsF w u y) : Calls Try.prog 32 #[v, u] w (RetF w (opF divN x y)) := by
  have HX := h
  have HY := k
  obtain ⟨va, vb, rfl, _, _⟩ := h
  obtain ⟨vc, vd, rfl, _, _⟩ := k
  obtain ⟨W0, hW, bx, by', br, hsz, hb0⟩ := start3 w #[.bool x.neg, va, vb] #[.bool y.neg, vc, vd] #[.bool false, .slice none 0 0, .slice none 0 0] 25
  obtain ⟨c0, c1, c2⟩ := bx.cells3
  obtain ⟨d0, d1, d2⟩ := by'.cells3
  have H1 := Lib.hid (HX.after hb0)
  have H2 := Lib.hid (HY.after hb0)
  have HB0 := Lib.hid hb0
  have BX := Lib.hid bx
  have BY := Lib.hid by'
  have BR := Lib.hid br
  clear HX HY bx by' br hb0
  by_cases hx : ValidF x
  · have HVX := Lib.hid hx
    clear hx
    by_cases hy : ValidF y
    · have HVY := Lib.hid hy
      clear hy
      go_enter Try.func32, Try.ntmps32
      go_upto_region 1 with fail
      rw [← hW]
      clear hW
      go_wp2_with fail
      refine (RValid_c _ _ _ H1.out).mono ?_
      intro e w1 hr
      obtain ⟨rfl, hb1⟩ := hr.yes HVX.out
      obtain ⟨d0', d1', d2'⟩ := (BY.out.after hb1).cells3
      have K1 := Lib.hid (H1.out.after hb1)
      have K2 := Lib.hid (H2.out.after hb1)
      have BX1 := Lib.hid (BX.out.after hb1)
      have BY1 := Lib.hid (BY.out.after hb1)
      have BR1 := Lib.hid (BR.out.after hb1)
      have KW := Lib.hid (HB0.out.trans (hb1.mono HB0.out.size))
      clear hr hb1 c0 c1 c2 d0 d1 d2 H1 H2 BX BY BR HB0
      go_wp2_with fail
      refine (RValid_c _ _ _ K2.out).mono ?_
      intro e w2 hr
      obtain ⟨rfl, hb1⟩ := hr.yes HVY.out
      have M1 := Lib.hid (K1.out.after hb1)
      have M2 := Lib.hid (K2.out.after hb1)
      have BX2 := Lib.hid (BX1.out.after hb1)
      have BY2 := Lib.hid (BY1.out.after hb1)
      have BR2 := Lib.hid (BR1.out.after hb1)
      have MW := Lib.hid (KW.out.trans (hb1.mono KW.out.size))
      clear hr hb1 K1 K2 KW BX1 BY1 BR1 d0' d1' d2'
      have ex := HVX.out
      have ey := HVY.out
      have ok1 := ex.2.2
      have ok2 := ey.2.2
      obtain ⟨va', vb', e1, ha', hb'⟩ := M1.out
      obtain ⟨rfl, rfl⟩ : va = va' ∧ vb = vb' := by simpa using e1
      obtain ⟨vc', vd', e2, hc', hd'⟩ := M2.out
      obtain ⟨rfl, rfl⟩ : vc = vc' ∧ vd = vd' := by simpa using e2
      have ca := ex.1
      have cb := ex.2.1
      have cc := ey.1
      have cd := ey.2.1
      unfold Canon at ca cb cc cd
      rw [ca] at ha'
      rw [cb] at hb'
      rw [cc] at hc'
      rw [cd] at hd'
      have A1 := Lib.hid ha'
      have A2 := Lib.hid hb'
      have A3 := Lib.hid hc'
      have A4 := Lib.hid hd'
      have o1 := ok1.n32
      have o2 := ok1.d32
      have o3 := ok2.n32
      have o4 := ok2.d32
      have o5 := ok1.pos
      have o6 := ok2.pos
      have hspec : Hid (opF divN x y = if val y.num = 0 then (F0, 2) else made (!(x.neg == y.neg)) (val x.num * val y.den) (val x.den * val y.num)) := by show _ = _; rw [opF_yes ⟨HVX.out, HVY.out⟩]; rfl
      generalize hoo : opF divN x y = o at *
      clear hoo
      clear e1 e2 ha' hb' hc' hd' ca cb cc cd ex ey ok1 ok2 M1 M2
      generalize x.neg = n1 at *
      generalize y.neg = n2 at *
      generalize val x.num = a at *
      generalize val x.den = b at *
      generalize val y.num = c at *
      generalize val y.den = d at *
      obtain ⟨pc, cpc, rfl, _, _⟩ := A3.out.shape
      obtain ⟨c0, c1, c2⟩ := BX2.out.cells3
      obtain ⟨d0, d1, d2⟩ := BY2.out.cells3
      have hlx := BX2.out.lt
      have hly := BY2.out.lt
      by_cases hc : c = 0
      · have hno : Hid (o = (F0, 2)) := by show _ = _; rw [hspec.out, if_pos hc]
        have hz : (limbs c).length ≤ 0 := by rw [hc, limbs_zero]; exact Nat.le_refl _
        obtain ⟨r0, r1, r2⟩ := BR2.out.cells3
        have f0 := BR2.out.frozen 0
        have f1 := BR2.out.frozen 1
        have f2 := BR2.out.frozen 2
        clear hc hspec
        go_wp2_with fail
        refine bodyPost_ret (v := .tuple #[.agg #[.bool false, .slice none 0 0, .slice none 0 0], .int .i64 2]) (by simp [results, Try.results32, go_sem, r0, r1, r2]) rfl ?_
        rw [hno.out]
        exact ⟨_, rfl, IsF.zero _, ((MW.out.setCell (p := ⟨w.heap.size + 2, 0, none⟩) (by simp) _).setCell (p := ⟨w.heap.size + 2, 1, none⟩) (by simp) _).setCell (p := ⟨w.heap.size + 2, 2, none⟩) (by simp) _⟩
      have hlp := limbs_len_pos (Nat.pos_of_ne_zero hc)
      replace hspec : Hid (o = made (!(n1 == n2)) (a * d) (b * c)) := by show _ = _; rw [hspec.out, if_neg hc]
      have mkS : Hid (∀ w', Below w2.heap.size w2 w' → w'.cell? ⟨w.heap.size, 0, none⟩ = some (.bool n1) ∧ w'.cell? ⟨w.heap.size, 1, none⟩ = some va ∧ w'.cell? ⟨w.heap.size, 2, none⟩ = some vb ∧ w'.cell? ⟨w.heap.size + 1, 0, none⟩ = some (.bool n2) ∧ w'.cell? ⟨w.heap.size + 1, 1, none⟩ = some (.slice pc (limbs c).length cpc) ∧ w'.cell? ⟨w.heap.size + 1, 2, none⟩ = some vd) := fun w' hb => ⟨(BX2.out.after hb).cell 0, (BX2.out.after hb).cell 1, (BX2.out.after hb).cell 2, (BY2.out.after hb).cell 0, (BY2.out.after hb).cell 1, (BY2.out.after hb).cell 2⟩
      have l1 : Hid ((limbs (a * d)).length ≤ 400000) := Nat.le_trans (limbs_mul_len _ _) (by omega)
      have l2 : Hid ((limbs (b * c)).length ≤ 400000) := Nat.le_trans (limbs_mul_len _ _) (by omega)
      have hpos : Hid (0 < b * c) := Nat.mul_pos o5 (Nat.pos_of_ne_zero hc)
      go_upto_region 5 with fail
      clear c0 c1 c2 d0 d1 d2 hlx hly
      go_region_held3 (fun w' => w'.cell? ⟨w.heap.size, 0, none⟩ = some (.bool n1) ∧ w'.cell? ⟨w.heap.size, 1, none⟩ = some va ∧ w'.cell? ⟨w.heap.size, 2, none⟩ = some vb ∧ w'.cell? ⟨w.heap.size + 1, 0, none⟩ = some (.bool n2) ∧ w'.cell? ⟨w.heap.size + 1, 1, none⟩ = some (.slice pc (limbs c).length cpc) ∧ w'.cell? ⟨w.heap.size + 1, 2, none⟩ = some vd)
        (first | (refine mkS.out _ ?_; (repeat (first | with_reducible exact hk4 | with_reducible exact hk3 | with_reducible exact hk2 | with_reducible exact hk1 | with_reducible exact Below.refl _ _ | with_reducible refine below_dr ?_)); done) | (refine keep6s ?_ ?_ (mkS.out _ hk4); omega; omega))
        (first
         | (go_at_call_of 70 va; refine (Product_n _ va vd a d ?_ ?_ ?_ ?_).mono ?_; exact A1.out.after (below_dr (Below.refl _ w2)); exact A4.out.after (below_dr (Below.refl _ w2)); omega; omega; rintro e w3 ⟨vp, rfl, hvp, hbvp⟩; have hk1 := below_of_drew hbvp)
         | (go_at_call_of 70 vb; refine (Product_n _ vb _ b c ?_ ?_ ?_ ?_).mono ?_; exact A2.out.after hk1; exact A3.out.after hk1; omega; omega; rintro e w4 ⟨vq, rfl, hvq, hbvq⟩; have hk2 := hk1.trans (hbvq.mono hk1.size))
         | (go_at_call 50; refine (Made_c _ vp vq (a * d) (b * c) (!(n1 == n2)) (hvp.after hbvq) hvq hpos.out l1.out l2.out).mono ?_; rw [← hspec.out]; rintro e w6 ⟨v6, rfl, hv6, hb6⟩; have hk4 := hk2.trans (hb6.mono hk2.size); obtain ⟨va6, vb6, rfl, h51, h52⟩ := hv6; obtain ⟨p, cp, rfl, _, _⟩ := h51.shape; obtain ⟨q, cq, rfl, _, _⟩ := h52.shape; have bx5 := BR2.out.after hk4; obtain ⟨r0, r1, r2⟩ := bx5.cells3; have f0 := bx5.frozen 0; have f1 := bx5.frozen 1; have f2 := bx5.frozen 2))
      have BW5 := MW.out.trans (hk4.mono MW.out.size)
      have BX5 := Lib.hid bx5
      have HVA := Lib.hid h51
      have HVB := Lib.hid h52
      have BW5 := Lib.hid BW5
      clear hk4 bx5 h51 h52 mkS
      go_wp2_with fail
      refine bodyPost_ret (v := .tuple #[.agg #[.bool o.1.neg, .slice p o.1.num.length cp, .slice q o.1.den.length cq], .int .i64 o.2]) (by simp [results, Try.results32, go_sem, r0, r1, r2]) rfl ?_
      exact ⟨_, rfl, IsF.result BX5.out (fun _ h => by cases h) (fun _ h => by cases h) HVA.out HVB.out, ((BW5.out.setCell (p := ⟨w.heap.size + 2, 0, none⟩) (by simp) _).setCell (p := ⟨w.heap.size + 2, 1, none⟩) (by simp) _).setCell (p := ⟨w.heap.size + 2, 2, none⟩) (by simp) _⟩
    · have HVY := Lib.hid hy
      have hno : Hid (opF divN x y = (F0, 1)) := opF_no fun hh => hy hh.2
      clear hy
      go_enter Try.func32, Try.ntmps32
      go_upto_region 1 with fail
      rw [← hW]
      clear hW
      go_wp2_with fail
      refine (RValid_c _ _ _ H1.out).mono ?_
      intro e w1 hr
      obtain ⟨rfl, hb1⟩ := hr.yes HVX.out
      obtain ⟨d0', d1', d2'⟩ := (BY.out.after hb1).cells3
      have K2 := Lib.hid (H2.out.after hb1)
      have BR1 := Lib.hid (BR.out.after hb1)
      have KW := Lib.hid (HB0.out.trans (hb1.mono HB0.out.size))
      clear hr hb1 c0 c1 c2 d0 d1 d2 H1 H2 BX BY BR HB0
      go_wp2_with fail
      refine (RValid_c _ _ _ K2.out).mono ?_
      intro e w2 hr
      obtain ⟨rfl, hb1⟩ := hr.no HVY.out
      have bx5 := BR1.out.after hb1
      obtain ⟨r0, r1, r2⟩ := bx5.cells3
      have f0 := bx5.frozen 0
      have f1 := bx5.frozen 1
      have f2 := bx5.frozen 2
      have BW5 := Lib.hid (KW.out.trans (hb1.mono KW.out.size))
      clear hr hb1 bx5 K2 d0' d1' d2'
      go_wp2_with fail
      refine bodyPost_ret (v := .tuple #[.agg #[.bool false, .slice none 0 0, .slice none 0 0], .int .i64 1]) (by simp [results, Try.results32, go_sem, r0, r1, r2]) rfl ?_
      rw [hno.out]
      exact ⟨_, rfl, IsF.zero _, ((BW5.out.setCell (p := ⟨w.heap.size + 2, 0, none⟩) (by simp) _).setCell (p := ⟨w.heap.size + 2, 1, none⟩) (by simp) _).setCell (p := ⟨w.heap.size + 2, 2, none⟩) (by simp) _⟩
  · have HVX := Lib.hid hx
    have hno : Hid (opF divN x y = (F0, 1)) := opF_no fun hh => hx hh.1
    clear hx
    go_enter Try.func32, Try.ntmps32
    go_upto_region 1 with fail
    rw [← hW]
    clear hW
    go_wp2_with fail
    refine (RValid_c _ _ _ H1.out).mono ?_
    intro e w1 hr
    obtain ⟨rfl, hb1⟩ := hr.no HVX.out
    have bx5 := BR.out.after hb1
    obtain ⟨r0, r1, r2⟩ := bx5.cells3
    have f0 := bx5.frozen 0
    have f1 := bx5.frozen 1
    have f2 := bx5.frozen 2
    have BW5 := Lib.hid (HB0.out.trans (hb1.mono HB0.out.size))
    clear hr hb1 bx5 c0 c1 c2 d0 d1 d2 H1 H2
    go_wp2_with fail
    refine bodyPost_ret (v := .tuple #[.agg #[.bool false, .slice none 0 0, .slice none 0 0], .int .i64 1]) (by simp [results, Try.results32, go_sem, r0, r1, r2]) rfl ?_
    rw [hno.out]
    exact ⟨_, rfl, IsF.zero _, ((BW5.out.setCell (p := ⟨w.heap.size + 2, 0, none⟩) (by simp) _).setCell (p := ⟨w.heap.size + 2, 1, none⟩) (by simp) _).setCell (p := ⟨w.heap.size + 2, 2, none⟩) (by simp) _⟩
end Go.Proofs.Ytaojdlcailpheaa
