/- Walks of the reference's canary: Chance. -/
import Derived.Test.YtjjefdkadgkhfaaGreatQMem11
import Derived.Test.YtjjefdkadgkhfaaGreatQC18
import Derived.Test.YtjjefdkadgkhfaaGreatK24
import Derived.Test.YtjjefdkadgkhfaaGreatK27
import Derived.Test.YtjjefdkadgkhfaaGreatQV12
import Derived.Test.YtjjefdkadgkhfaaGreatK17
import Derived.Test.YtjjefdkadgkhfaaGreatK23
set_option linter.unusedVariables false
namespace Go.Proofs.YtjjefdkadgkhfaaGreat
open Go.RowKit

set_option maxRecDepth 100000 in
set_option maxHeartbeats 4000000 in
theorem rChance_bad (w : World) (v u : Value) (R : Ro) (x : F) (h : IsR w v R) (hp : IsF w u x) (hbig : R.waves.length ≤ 1000000) (hb : ¬ (ValidR R ∧ rateE x = 0)) : Calls Tryz.prog 18 #[v, u] w (RetF w (chanceF R x)) := by
  obtain ⟨r, hr1⟩ : ∃ r, rateE x = r := ⟨_, rfl⟩
  have hcs := rateE_cases x
  rw [hr1] at hcs hb
  have hsp1 : Hid (¬ ValidR R ∨ r = 1 → chanceF R x = (F0, 1)) := by
    intro h
    unfold chanceF
    rw [if_pos (by rw [hr1]; exact h)]
  have hsp2 : Hid (ValidR R → r = 2 → chanceF R x = (F0, 2)) := by
    intro h h2
    unfold chanceF
    rw [if_neg (by rw [hr1, h2]; rintro (h' | h'); exact h' h; omega), if_neg (by rw [hr1, h2]; omega)]
  have HR1 := Lib.hid hr1
  have HX := h
  obtain ⟨p0, p1, p2, p3, p4, p5, k0, k1, k2, k3, k4, k5, rfl, _, _, _, _⟩ := h.open
  obtain ⟨va, vb, rfl, h1, h2⟩ := hp
  obtain ⟨p, cp, rfl, _, _⟩ := h1.shape
  obtain ⟨q, cq, rfl, _, _⟩ := h2.shape
  obtain ⟨W0, hW, bR, bP, bO, hb0, hsz⟩ := start_ch w #[.slice p0 R.hosts.length k0, .slice p1 R.waves.length k1, .bool R.rate.neg, .slice p2 R.rate.num.length k2, .slice p3 R.rate.den.length k3, .bool R.bound.neg, .slice p4 R.bound.num.length k4, .slice p5 R.bound.den.length k5] #[.bool x.neg, .slice p x.num.length cp, .slice q x.den.length cq] #[.bool false, .slice none 0 0, .slice none 0 0] 28 26 26
  obtain ⟨c0, c1, c2, c3, c4, c5, c6, c7⟩ := bR.cells8
  have hl : w.heap.size + 2 < W0.heap.size := by omega
  have HP := Lib.hid (HX.after hb0)
  have HF := Lib.hid (show IsF W0 (.agg #[.bool x.neg, .slice p x.num.length cp, .slice q x.den.length cq]) x from ⟨_, _, rfl, h1.after hb0, h2.after hb0⟩)
  have HB0 := Lib.hid hb0
  have BP := Lib.hid bP
  have BO := Lib.hid bO
  clear HX h h1 h2 bR bP bO hb0 hsz hr1
  have HEND : Hid (∀ w3, Below W0.heap.size W0 w3 → ∃ z : World, z = ((w3.setCell ⟨w.heap.size + 2, 0, none⟩ (.bool false)).setCell ⟨w.heap.size + 2, 1, none⟩ (.slice none 0 0)).setCell ⟨w.heap.size + 2, 2, none⟩ (.slice none 0 0) ∧ Below w.heap.size w z) := by
    intro w3 hb3
    have hb := HB0.out.trans (hb3.mono HB0.out.size)
    exact ⟨_, rfl, ((hb.setCell (p := ⟨w.heap.size + 2, 0, none⟩) (by simp) _).setCell (p := ⟨w.heap.size + 2, 1, none⟩) (by simp) _).setCell (p := ⟨w.heap.size + 2, 2, none⟩) (by simp) _⟩
  by_cases hv : ValidR R
  · have HV := Lib.hid hv
    have hr0 : r ≠ 0 := fun h => hb ⟨hv, h⟩
    clear hb hv
    go_enter Tryz.func18, Tryz.ntmps18
    go_upto_region 1 with fail
    rw [← hW]
    clear hW
    go_wp2_with fail
    refine (rcValid_c _ _ R HP.out hbig).mono ?_
    intro e w1 hr
    obtain ⟨rfl, hb1⟩ := hr.yes HV.out
    obtain ⟨x0, x1, x2⟩ := (BP.out.after hb1).cells3
    have HB1 := Lib.hid hb1
    clear hr hb1 c0 c1 c2 c3 c4 c5 c6 c7
    go_wp2_with fail
    refine (Rate_c _ _ x (HF.out.after HB1.out)).mono ?_
    rw [HR1.out]
    rintro e w2 ⟨rfl, hb2⟩
    have hb02 := HB1.out.trans (hb2.mono HB1.out.size)
    obtain ⟨x0, x1, x2⟩ := (BP.out.after hb02).cells3
    have bo := BO.out.after hb02
    obtain ⟨z0, z1, z2⟩ := bo.cells3
    have f0 := bo.frozen 0
    have f1 := bo.frozen 1
    have f2 := bo.frozen 2
    have HB2 := Lib.hid hb02
    clear hb2 hb02 bo
    rcases hcs with h0 | rfl | rfl
    · exact absurd h0 hr0
    · obtain ⟨wz, hwz, hbz⟩ := HEND.out w2 HB2.out
      have HBZ := Lib.hid hbz
      clear hbz
      go_wp2_with fail
      refine bodyPost_ret (v := .tuple #[.agg #[.bool false, .slice none 0 0, .slice none 0 0], .int .i64 1]) (by simp [results, Tryz.results18, go_sem, z0, z1, z2]) rfl ?_
      rw [hsp1.out (.inr (by trivial))]
      rw [show w.heap.size + 1 + 1 = w.heap.size + 2 from rfl, ← hwz]
      exact ⟨_, rfl, IsF.zero _, HBZ.out⟩
    · clear z0 z1 z2 f0 f1 f2
      go_wp2_with fail
      refine (Rate_c _ _ x (HF.out.after HB2.out)).mono ?_
      rw [HR1.out]
      rintro e w3 ⟨rfl, hb3⟩
      have hb03 := HB2.out.trans (hb3.mono HB2.out.size)
      have bo := BO.out.after hb03
      obtain ⟨z0, z1, z2⟩ := bo.cells3
      have f0 := bo.frozen 0
      have f1 := bo.frozen 1
      have f2 := bo.frozen 2
      obtain ⟨wz, hwz, hbz⟩ := HEND.out w3 hb03
      have HBZ := Lib.hid hbz
      clear hbz hb3 hb03 bo x0 x1 x2
      go_wp2_with fail
      refine bodyPost_ret (v := .tuple #[.agg #[.bool false, .slice none 0 0, .slice none 0 0], .int .i64 2]) (by simp [results, Tryz.results18, go_sem, z0, z1, z2]) rfl ?_
      rw [hsp2.out HV.out (by trivial)]
      rw [show w.heap.size + 1 + 1 = w.heap.size + 2 from rfl, ← hwz]
      exact ⟨_, rfl, IsF.zero _, HBZ.out⟩
  · have HV := Lib.hid hv
    clear hb hv
    go_enter Tryz.func18, Tryz.ntmps18
    go_upto_region 1 with fail
    rw [← hW]
    clear hW
    go_wp2_with fail
    refine (rcValid_c _ _ R HP.out hbig).mono ?_
    intro e w1 hr
    obtain ⟨rfl, hb1⟩ := hr.no HV.out
    have bo := BO.out.after hb1
    obtain ⟨z0, z1, z2⟩ := bo.cells3
    have f0 := bo.frozen 0
    have f1 := bo.frozen 1
    have f2 := bo.frozen 2
    obtain ⟨wz, hwz, hbz⟩ := HEND.out w1 hb1
    have HBZ := Lib.hid hbz
    clear hr hb1 bo hbz c0 c1 c2 c3 c4 c5 c6 c7
    go_wp2_with fail
    refine bodyPost_ret (v := .tuple #[.agg #[.bool false, .slice none 0 0, .slice none 0 0], .int .i64 1]) (by simp [results, Tryz.results18, go_sem, z0, z1, z2]) rfl ?_
    rw [hsp1.out (.inl HV.out)]
    rw [show w.heap.size + 1 + 1 = w.heap.size + 2 from rfl, ← hwz]
    exact ⟨_, rfl, IsF.zero _, HBZ.out⟩
end Go.Proofs.YtjjefdkadgkhfaaGreat
