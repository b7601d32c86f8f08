/- Walks of the reference: Sub. -/
import Derived.Test.YtaojdlcailpheaaQV15
set_option linter.unusedVariables false
namespace Go.Proofs.Ytaojdlcailpheaa
open Go.RowKit

set_option maxRecDepth 100000 in
set_option maxHeartbeats 4000000 in
theorem rSub_c (w : World) (v u : Value) (x y : F) (h : IsF w v x) (k : IsF w u y) : Calls Try.prog 30 #[v, u] w (RetF w (opF subN x y)) := by
  have HX := h
  have HY := k
  obtain ⟨va, vb, rfl, _, _⟩ := h
  obtain ⟨vc, vd, rfl, _, _⟩ := k
  obtain ⟨W0, hW, bx, by', br, hsz, hb0⟩ := start3 w #[.bool x.neg, va, vb] #[.bool y.neg, vc, vd] #[.bool false, .slice none 0 0, .slice none 0 0] 25
  obtain ⟨c0, c1, c2⟩ := bx.cells3
  obtain ⟨d0, d1, d2⟩ := by'.cells3
  have H1 := Lib.hid (HX.after hb0)
  have H2 := Lib.hid (HY.after hb0)
  have HB0 := Lib.hid hb0
  have BX := Lib.hid bx
  have BY := Lib.hid by'
  have BR := Lib.hid br
  clear HX HY bx by' br hb0
  by_cases hx : ValidF x
  · have HVX := Lib.hid hx
    clear hx
    by_cases hy : ValidF y
    · have HVY := Lib.hid hy
      clear hy
      go_enter Try.func30, Try.ntmps30
      go_upto_region 1 with fail
      rw [← hW]
      clear hW
      go_wp2_with fail
      refine (RValid_c _ _ _ H1.out).mono ?_
      intro e w1 hr
      obtain ⟨rfl, hb1⟩ := hr.yes HVX.out
      obtain ⟨d0', d1', d2'⟩ := (BY.out.after hb1).cells3
      have K1 := Lib.hid (H1.out.after hb1)
      have K2 := Lib.hid (H2.out.after hb1)
      have BX1 := Lib.hid (BX.out.after hb1)
      have BY1 := Lib.hid (BY.out.after hb1)
      have BR1 := Lib.hid (BR.out.after hb1)
      have KW := Lib.hid (HB0.out.trans (hb1.mono HB0.out.size))
      clear hr hb1 c0 c1 c2 d0 d1 d2 H1 H2 BX BY BR HB0
      go_wp2_with fail
      refine (RValid_c _ _ _ K2.out).mono ?_
      intro e w2 hr
      obtain ⟨rfl, hb1⟩ := hr.yes HVY.out
      have M1 := Lib.hid (K1.out.after hb1)
      have M2 := Lib.hid (K2.out.after hb1)
      have BX2 := Lib.hid (BX1.out.after hb1)
      have BY2 := Lib.hid (BY1.out.after hb1)
      have BR2 := Lib.hid (BR1.out.after hb1)
      have MW := Lib.hid (KW.out.trans (hb1.mono KW.out.size))
      clear hr hb1 K1 K2 KW BX1 BY1 BR1 d0' d1' d2'
      have hst : Hid (opF sumN x (turnF y) = opF subN x y) := sub_turn HVX.out HVY.out
      obtain ⟨o, ho⟩ : ∃ o, opF subN x y = o := ⟨_, rfl⟩
      have HO := Lib.hid ho
      rw [ho] at hst
      clear ho
      have mkS : Hid (∀ w', Below w2.heap.size w2 w' → w'.cell? ⟨w.heap.size, 0, none⟩ = some (.bool x.neg) ∧ w'.cell? ⟨w.heap.size, 1, none⟩ = some va ∧ w'.cell? ⟨w.heap.size, 2, none⟩ = some vb ∧ w'.cell? ⟨w.heap.size + 1, 0, none⟩ = some (.bool y.neg) ∧ w'.cell? ⟨w.heap.size + 1, 1, none⟩ = some vc ∧ w'.cell? ⟨w.heap.size + 1, 2, none⟩ = some vd) := fun w' hb => ⟨(BX2.out.after hb).cell 0, (BX2.out.after hb).cell 1, (BX2.out.after hb).cell 2, (BY2.out.after hb).cell 0, (BY2.out.after hb).cell 1, (BY2.out.after hb).cell 2⟩
      go_upto_region 3 with fail
      go_region_held3 (fun w' => w'.cell? ⟨w.heap.size, 0, none⟩ = some (.bool x.neg) ∧ w'.cell? ⟨w.heap.size, 1, none⟩ = some va ∧ w'.cell? ⟨w.heap.size, 2, none⟩ = some vb ∧ w'.cell? ⟨w.heap.size + 1, 0, none⟩ = some (.bool y.neg) ∧ w'.cell? ⟨w.heap.size + 1, 1, none⟩ = some vc ∧ w'.cell? ⟨w.heap.size + 1, 2, none⟩ = some vd)
        (first | (refine mkS.out _ ?_; (repeat (first | with_reducible exact hk4 | with_reducible exact hk1 | with_reducible exact Below.refl _ _ | with_reducible refine below_dr ?_)); done) | (refine keep6s ?_ ?_ (mkS.out _ hk4); omega; omega))
        (first
         | (go_at_call 71; refine (negated_c _ _ y ?_).mono ?_; exact M2.out.after (below_dr (Below.refl _ w2)); rintro e w3 ⟨vt, rfl, hvt, hbvt⟩; have hk1 := below_of_drew hbvt)
         | (go_at_call 29; have hM1 := M1.out.after hk1; refine (rAdd_c w3 (.agg #[.bool x.neg, va, vb]) vt x (turnF y) hM1 hvt).mono ?_; rw [hst.out]; rintro e w6 ⟨v6, rfl, hv6, hb6⟩; have hk4 := hk1.trans (hb6.mono hk1.size); obtain ⟨va6, vb6, rfl, h51, h52⟩ := hv6; obtain ⟨p, cp, rfl, _, _⟩ := h51.shape; obtain ⟨q, cq, rfl, _, _⟩ := h52.shape; have bx5 := BR2.out.after hk4; obtain ⟨r0, r1, r2⟩ := bx5.cells3; have f0 := bx5.frozen 0; have f1 := bx5.frozen 1; have f2 := bx5.frozen 2))
      have BW5 := MW.out.trans (hk4.mono MW.out.size)
      have BX5 := Lib.hid bx5
      have HVA := Lib.hid h51
      have HVB := Lib.hid h52
      have BW5 := Lib.hid BW5
      clear hk4 bx5 h51 h52 mkS hvt hbvt hM1 hk1 hb6 M1 M2 HVX HVY hst
      go_wp2_with fail
      rw [HO.out]
      refine bodyPost_ret (v := .tuple #[.agg #[.bool o.1.neg, .slice p o.1.num.length cp, .slice q o.1.den.length cq], .int .i64 o.2]) (by simp [results, Try.results30, go_sem, r0, r1, r2]) rfl ?_
      exact ⟨_, rfl, IsF.result BX5.out (fun _ h => by cases h) (fun _ h => by cases h) HVA.out HVB.out, ((BW5.out.setCell (p := ⟨w.heap.size + 2, 0, none⟩) (by simp) _).setCell (p := ⟨w.heap.size + 2, 1, none⟩) (by simp) _).setCell (p := ⟨w.heap.size + 2, 2, none⟩) (by simp) _⟩
    · have HVY := Lib.hid hy
      have hno : Hid (opF subN x y = (F0, 1)) := opF_no fun hh => hy hh.2
      clear hy
      go_enter Try.func30, Try.ntmps30
      go_upto_region 1 with fail
      rw [← hW]
      clear hW
      go_wp2_with fail
      refine (RValid_c _ _ _ H1.out).mono ?_
      intro e w1 hr
      obtain ⟨rfl, hb1⟩ := hr.yes HVX.out
      obtain ⟨d0', d1', d2'⟩ := (BY.out.after hb1).cells3
      have K2 := Lib.hid (H2.out.after hb1)
      have BR1 := Lib.hid (BR.out.after hb1)
      have KW := Lib.hid (HB0.out.trans (hb1.mono HB0.out.size))
      clear hr hb1 c0 c1 c2 d0 d1 d2 H1 H2 BX BY BR HB0
      go_wp2_with fail
      refine (RValid_c _ _ _ K2.out).mono ?_
      intro e w2 hr
      obtain ⟨rfl, hb1⟩ := hr.no HVY.out
      have bx5 := BR1.out.after hb1
      obtain ⟨r0, r1, r2⟩ := bx5.cells3
      have f0 := bx5.frozen 0
      have f1 := bx5.frozen 1
      have f2 := bx5.frozen 2
      have BW5 := Lib.hid (KW.out.trans (hb1.mono KW.out.size))
      clear hr hb1 bx5 K2 d0' d1' d2'
      go_wp2_with fail
      refine bodyPost_ret (v := .tuple #[.agg #[.bool false, .slice none 0 0, .slice none 0 0], .int .i64 1]) (by simp [results, Try.results30, go_sem, r0, r1, r2]) rfl ?_
      rw [hno.out]
      exact ⟨_, rfl, IsF.zero _, ((BW5.out.setCell (p := ⟨w.heap.size + 2, 0, none⟩) (by simp) _).setCell (p := ⟨w.heap.size + 2, 1, none⟩) (by simp) _).setCell (p := ⟨w.heap.size + 2, 2, none⟩) (by simp) _⟩
  · have HVX := Lib.hid hx
    have hno : Hid (opF subN x y = (F0, 1)) := opF_no fun hh => hx hh.1
    clear hx
    go_enter Try.func30, Try.ntmps30
    go_upto_region 1 with fail
    rw [← hW]
    clear hW
    go_wp2_with fail
    refine (RValid_c _ _ _ H1.out).mono ?_
    intro e w1 hr
    obtain ⟨rfl, hb1⟩ := hr.no HVX.out
    have bx5 := BR.out.after hb1
    obtain ⟨r0, r1, r2⟩ := bx5.cells3
    have f0 := bx5.frozen 0
    have f1 := bx5.frozen 1
    have f2 := bx5.frozen 2
    have BW5 := Lib.hid (HB0.out.trans (hb1.mono HB0.out.size))
    clear hr hb1 bx5 c0 c1 c2 d0 d1 d2 H1 H2
    go_wp2_with fail
    refine bodyPost_ret (v := .tuple #[.agg #[.bool false, .slice none 0 0, .slice none 0 0], .int .i64 1]) (by simp [results, Try.results30, go_sem, r0, r1, r2]) rfl ?_
    rw [hno.out]
    exact ⟨_, rfl, IsF.zero _, ((BW5.out.setCell (p := ⟨w.heap.size + 2, 0, none⟩) (by simp) _).setCell (p := ⟨w.heap.size + 2, 1, none⟩) (by simp) _).setCell (p := ⟨w.heap.size + 2, 2, none⟩) (by simp) _⟩
end Go.Proofs.Ytaojdlcailpheaa
