/- The walk of CanaryChances. -/
import Derived.Test.YtjjefdkadgkhfaaGreatK27
import Derived.Test.YtjjefdkadgkhfaaGreatQC20
set_option linter.unusedVariables false
namespace Go.Proofs.YtjjefdkadgkhfaaGreat
open Go.RowKit Go.Shelf

theorem cut34_cut34 (x : F) : cut34 (cut34 x) = cut34 x := by unfold cut34; simp [List.take_take]
/-- The variable of a fraction bears neither limbs nor ints. -/
theorem dull_frac {w : World} {b : Nat} {s : Bool} {p q : Option Addr} {n m c d : Nat} (h : Box w b #[.bool s, .slice p n c, .slice q m d] 26) : Dull (fun g => g = b) w := by
  refine ⟨?_, ?_⟩
  · rintro g rfl
    exact h.noTag (by decide) _ rfl
  · rintro g o z rfl hc
    rw [h.cell] at hc
    rcases o with _ | _ | _ | o <;> simp at hc

set_option maxRecDepth 100000 in
set_option maxHeartbeats 8000000 in
theorem canaryChances_c (w : World) (v u : Value) (R : Ro) (x : F) (h : IsRA w v R) (k : IsFA w u x) : Calls Tryz.prog 4 #[v, u] w fun e w' => e = .returned (.bool true) ∧ Below w.heap.size w w' := by
  obtain ⟨vh, vw, va, vb, vc, vd, rfl, h1, h2, h3, h4, h5, h6⟩ := h
  obtain ⟨p0, k0, rfl, _, _, _⟩ := h1.shape
  obtain ⟨p1, k1, rfl, _, _, _⟩ := h2.shape
  obtain ⟨p2, k2, rfl, _, _⟩ := h3.shape
  obtain ⟨p3, k3, rfl, _, _⟩ := h4.shape
  obtain ⟨p4, k4, rfl, _, _⟩ := h5.shape
  obtain ⟨p5, k5, rfl, _, _⟩ := h6.shape
  obtain ⟨vx1, vx2, rfl, j1, j2⟩ := k
  obtain ⟨px, cx, rfl, _, _⟩ := j1.shape
  obtain ⟨qx, dx, rfl, _, _⟩ := j2.shape
  have hra : IsRA w (.agg #[.slice p0 R.hosts.length k0, .slice p1 R.waves.length k1, .bool R.rate.neg, .slice p2 R.rate.num.length k2, .slice p3 R.rate.den.length k3, .bool R.bound.neg, .slice p4 R.bound.num.length k4, .slice p5 R.bound.den.length k5]) R := ⟨_, _, _, _, _, _, rfl, h1, h2, h3, h4, h5, h6⟩
  have hxa : IsFA w (.agg #[.bool x.neg, .slice px x.num.length cx, .slice qx x.den.length dx]) x := ⟨_, _, rfl, j1, j2⟩
  obtain ⟨W0, hW⟩ : ∃ W0, W0 = (w.alloc (.cells #[.slice p0 R.hosts.length k0, .slice p1 R.waves.length k1, .bool R.rate.neg, .slice p2 R.rate.num.length k2, .slice p3 R.rate.den.length k3, .bool R.bound.neg, .slice p4 R.bound.num.length k4, .slice p5 R.bound.den.length k5] 28)).alloc (.cells #[.bool x.neg, .slice px x.num.length cx, .slice qx x.den.length dx] 26) := ⟨_, rfl⟩
  have bx : Box W0 w.heap.size #[.slice p0 R.hosts.length k0, .slice p1 R.waves.length k1, .bool R.rate.neg, .slice p2 R.rate.num.length k2, .slice p3 R.rate.den.length k3, .bool R.bound.neg, .slice p4 R.bound.num.length k4, .slice p5 R.bound.den.length k5] 28 := hW ▸ (Box.new w _ _).alloc _
  have br : Box W0 (w.heap.size + 1) #[.bool x.neg, .slice px x.num.length cx, .slice qx x.den.length dx] 26 := by
    have := Box.new (w.alloc (.cells #[.slice p0 R.hosts.length k0, .slice p1 R.waves.length k1, .bool R.rate.neg, .slice p2 R.rate.num.length k2, .slice p3 R.rate.den.length k3, .bool R.bound.neg, .slice p4 R.bound.num.length k4, .slice p5 R.bound.den.length k5] 28)) #[.bool x.neg, .slice px x.num.length cx, .slice qx x.den.length dx] 26
    rw [hW]
    simpa using this
  have hb0 : Below w.heap.size w W0 := hW ▸ held_alloc (held_alloc (Below.refl _ w))
  obtain ⟨c0, c1, c2, c3, c4, c5, c6, c7⟩ := bx.cells8
  obtain ⟨d0, d1, d2⟩ := br.cells3
  have HRA := Lib.hid (hra.after hb0)
  have HXA := Lib.hid (hxa.after hb0)
  obtain ⟨Q, hQ⟩ : ∃ Q, cutR R = Q := ⟨_, rfl⟩
  obtain ⟨y, hy⟩ : ∃ y, cut34 x = y := ⟨_, rfl⟩
  have HQ := Lib.hid hQ
  have HY := Lib.hid hy
  have hw18 : Q.waves.length ≤ 1000000 := by rw [← hQ]; unfold cutR; simp; omega
  have HB := Lib.hid hb0
  have BX := Lib.hid bx
  have BY := Lib.hid br
  clear hra hxa bx br hb0 h1 h2 h3 h4 h5 h6 j1 j2 hQ hy
  obtain ⟨o, ho⟩ : ∃ o, chanceF Q y = o := ⟨_, rfl⟩
  obtain ⟨z, er⟩ := o
  have HO := Lib.hid ho
  clear ho
  go_enter Tryz.func4, Tryz.ntmps4
  go_upto_region 1 with fail
  rw [← hW]
  clear hW
  go_cut [1] (fun t wx => ∃ (a0 a1 a2 a3 a4 a5 : Option Addr) (e0 e1 e2 e3 e4 e5 : Nat) (py qy : Option Addr) (cy dy : Nat), t = .agg #[.bool x.neg, .slice px x.num.length cx, .slice qx x.den.length dx] ∧ Hid (Box wx w.heap.size #[.slice a0 Q.hosts.length e0, .slice a1 Q.waves.length e1, .bool Q.rate.neg, .slice a2 Q.rate.num.length e2, .slice a3 Q.rate.den.length e3, .bool Q.bound.neg, .slice a4 Q.bound.num.length e4, .slice a5 Q.bound.den.length e5] 28) ∧ Hid (IsR wx (.agg #[.slice a0 Q.hosts.length e0, .slice a1 Q.waves.length e1, .bool Q.rate.neg, .slice a2 Q.rate.num.length e2, .slice a3 Q.rate.den.length e3, .bool Q.bound.neg, .slice a4 Q.bound.num.length e4, .slice a5 Q.bound.den.length e5]) Q) ∧ Hid (Box wx (w.heap.size + 1) #[.bool y.neg, .slice py y.num.length cy, .slice qy y.den.length dy] 26) ∧ Hid (IsF wx (.agg #[.bool y.neg, .slice py y.num.length cy, .slice qy y.den.length dy]) y) ∧ Hid (Below w.heap.size w wx))
  case first =>
    go_region_with (first
     | (go_at_call 6; refine (own32_a _ _ R ?_).mono ?_; exact HRA.out.after (below_dr (Below.refl _ W0)); rw [HQ.out]; rintro e w1 ⟨v1, rfl, hv1, hb1⟩; have hk1 := below_of_drew hb1; obtain ⟨a0, a1, a2, a3, a4, a5, e0, e1, e2, e3, e4, e5, rfl, _, _, _, _⟩ := hv1.open; obtain ⟨d0', d1', d2'⟩ := (BY.out.after hk1).cells3)
     | (go_at_call 16; refine (fraction_a _ _ x ?_).mono ?_; exact HXA.out.after hk1; rw [HY.out]; rintro e w2 ⟨v2, rfl, hv2, hb2⟩; have hk2 := hk1.trans (hb2.mono hk1.size); obtain ⟨vy1, vy2, rfl, g1, g2⟩ := hv2; obtain ⟨py, cy, rfl, _, _⟩ := g1.shape; obtain ⟨qy, dy, rfl, _, _⟩ := g2.shape; have bx2 := BX.out.after hk2; have by2 := BY.out.after hk2; obtain ⟨r0, r1, r2, r3, r4, r5, r6, r7⟩ := bx2.cells8; obtain ⟨s0, s1, s2⟩ := by2.cells3; have f0 := bx2.frozen 0; have f1 := bx2.frozen 1; have f2 := bx2.frozen 2; have f3 := bx2.frozen 3; have f4 := bx2.frozen 4; have f5 := bx2.frozen 5; have f6 := bx2.frozen 6; have f7 := bx2.frozen 7; have g0' := by2.frozen 0; have g1' := by2.frozen 1; have g2' := by2.frozen 2; have hlt := bx2.lt; have hlt2 := by2.lt))
    all_goals
      (go_wp2_with fail
       go_meet
       case rel =>
         have hst := ro_store bx2 (hv1.after hb2)
         have hg8 := set8_grown w2 w.heap.size (.slice a0 Q.hosts.length e0) (.slice a1 Q.waves.length e1) (.bool Q.rate.neg) (.slice a2 Q.rate.num.length e2) (.slice a3 Q.rate.den.length e3) (.bool Q.bound.neg) (.slice a4 Q.bound.num.length e4) (.slice a5 Q.bound.den.length e5)
         have by3 := by2.grown' hg8 (by intro e; injection e with e; omega)
         have hn8 := bx2.noTag (by decide)
         have h1 := g1.grown hg8 hn8
         have h2 := g2.grown hg8 hn8
         have hg3 := grown_set3 (set8 w2 w.heap.size (.slice a0 Q.hosts.length e0) (.slice a1 Q.waves.length e1) (.bool Q.rate.neg) (.slice a2 Q.rate.num.length e2) (.slice a3 Q.rate.den.length e3) (.bool Q.bound.neg) (.slice a4 Q.bound.num.length e4) (.slice a5 Q.bound.den.length e5)) (w.heap.size + 1) (.bool y.neg) (.slice py y.num.length cy) (.slice qy y.den.length dy)
         have hf3 := (Fx.refl (fun g => g = w.heap.size + 1) (set8 w2 w.heap.size (.slice a0 Q.hosts.length e0) (.slice a1 Q.waves.length e1) (.bool Q.rate.neg) (.slice a2 Q.rate.num.length e2) (.slice a3 Q.rate.den.length e3) (.bool Q.bound.neg) (.slice a4 Q.bound.num.length e4) (.slice a5 Q.bound.den.length e5))).of hg3 rfl
         have hd3 := dull_frac by3
         have hbl := set8_below (HB.out.trans (hk2.mono HB.out.size)) (Nat.le_refl _) (y0 := .slice a0 Q.hosts.length e0) (y1 := .slice a1 Q.waves.length e1) (y2 := .bool Q.rate.neg) (y3 := .slice a2 Q.rate.num.length e2) (y4 := .slice a3 Q.rate.den.length e3) (y5 := .bool Q.bound.neg) (y6 := .slice a4 Q.bound.num.length e4) (y7 := .slice a5 Q.bound.den.length e5)
         refine ⟨a0, a1, a2, a3, a4, a5, e0, e1, e2, e3, e4, e5, py, qy, cy, dy, rfl, Lib.hid (hst.1.fx hf3 (by omega)), Lib.hid (hst.2.fx hf3 hd3), Lib.hid (end_box by3), Lib.hid ⟨_, _, rfl, h1.fx hf3 hd3.1, h2.fx hf3 hd3.1⟩, Lib.hid (hbl.grown hg3 hbl.size (fun g e => by injection e with e; omega))⟩)
  case rest =>
  obtain ⟨a0, a1, a2, a3, a4, a5, e0, e1, e2, e3, e4, e5, py, qy, cy, dy, rfl, BQ, HR, BF, HF, HBC⟩ := hcut
  clear HB BX BY HRA HXA HQ HY c0 c1 c2 c3 c4 c5 c6 c7 d0 d1 d2
  have HB := HBC
  clear HBC
  obtain ⟨c0, c1, c2, c3, c4, c5, c6, c7⟩ := BQ.out.cells8
  obtain ⟨d0, d1, d2⟩ := BF.out.cells3
  have hlq := BQ.out.lt
  have hlf := BF.out.lt
  go_wp2_with fail
  refine (Chance_c _ _ _ Q y HR.out HF.out).mono ?_
  rw [HO.out]
  rintro e w3 ⟨v3, rfl, hv, hb⟩
  have hv : IsF w3 v3 z := hv
  obtain ⟨vz1, vz2, rfl, g1, g2⟩ := hv
  obtain ⟨pzA, czA, rfl, _, _⟩ := g1.shape
  obtain ⟨qzA, dzA, rfl, _, _⟩ := g2.shape
  go_upto_region 3 with fail
  obtain ⟨Ww3, hW⟩ : ∃ Ww3, Ww3 = w3.alloc (.cells #[.bool z.neg, .slice pzA z.num.length czA, .slice qzA z.den.length dzA] 26) := ⟨_, rfl⟩
  have hb' : Below w3.heap.size w3 Ww3 := hW ▸ held_alloc (Below.refl _ w3)
  have BA := Lib.hid (show Box Ww3 w3.heap.size #[.bool z.neg, .slice pzA z.num.length czA, .slice qzA z.den.length dzA] 26 from hW ▸ Box.new w3 _ _)
  have FA := Lib.hid (show IsF Ww3 (.agg #[.bool z.neg, .slice pzA z.num.length czA, .slice qzA z.den.length dzA]) z from ⟨_, _, rfl, g1.after hb', g2.after hb'⟩)
  have hbb := hb.trans (hb'.mono hb.size)
  replace HR := Lib.hid (HR.out.after hbb)
  replace BQ := Lib.hid (BQ.out.after hbb)
  replace HF := Lib.hid (HF.out.after hbb)
  replace BF := Lib.hid (BF.out.after hbb)
  replace HB := Lib.hid (HB.out.trans (hbb.mono HB.out.size))
  rw [← hW]
  clear hW hb' hbb hb g1 g2 c0 c1 c2 c3 c4 c5 c6 c7 d0 d1 d2 hlq hlf
  obtain ⟨c0, c1, c2, c3, c4, c5, c6, c7⟩ := BQ.out.cells8
  obtain ⟨d0, d1, d2⟩ := BF.out.cells3
  have hlq := BQ.out.lt
  have hlf := BF.out.lt
  go_wp2_with fail
  refine (rChance_c _ _ _ Q y HR.out HF.out hw18).mono ?_
  rw [HO.out]
  rintro e w4 ⟨v4, rfl, hv, hb⟩
  have hv : IsF w4 v4 z := hv
  obtain ⟨vz1, vz2, rfl, g1, g2⟩ := hv
  obtain ⟨pzB, czB, rfl, _, _⟩ := g1.shape
  obtain ⟨qzB, dzB, rfl, _, _⟩ := g2.shape
  go_upto_region 4 with fail
  obtain ⟨Ww4, hW⟩ : ∃ Ww4, Ww4 = w4.alloc (.cells #[.bool z.neg, .slice pzB z.num.length czB, .slice qzB z.den.length dzB] 26) := ⟨_, rfl⟩
  have hb' : Below w4.heap.size w4 Ww4 := hW ▸ held_alloc (Below.refl _ w4)
  have BB := Lib.hid (show Box Ww4 w4.heap.size #[.bool z.neg, .slice pzB z.num.length czB, .slice qzB z.den.length dzB] 26 from hW ▸ Box.new w4 _ _)
  have FB := Lib.hid (show IsF Ww4 (.agg #[.bool z.neg, .slice pzB z.num.length czB, .slice qzB z.den.length dzB]) z from ⟨_, _, rfl, g1.after hb', g2.after hb'⟩)
  have hbb := hb.trans (hb'.mono hb.size)
  replace HR := Lib.hid (HR.out.after hbb)
  replace BQ := Lib.hid (BQ.out.after hbb)
  replace HF := Lib.hid (HF.out.after hbb)
  replace BF := Lib.hid (BF.out.after hbb)
  replace HB := Lib.hid (HB.out.trans (hbb.mono HB.out.size))
  replace BA := Lib.hid (BA.out.after hbb)
  replace FA := Lib.hid (FA.out.after hbb)
  rw [← hW]
  clear hW hb' hbb hb g1 g2 c0 c1 c2 c3 c4 c5 c6 c7 d0 d1 d2 hlq hlf
  obtain ⟨c0, c1, c2⟩ := BA.out.cells3
  obtain ⟨d0, d1, d2⟩ := BB.out.cells3
  have l1 := BA.out.lt
  have l2 := BB.out.lt
  go_wp2_with fail
  refine (Same_c _ _ _ z z FA.out FB.out).mono ?_
  intro e w5 hr
  obtain ⟨rfl, hb⟩ := hr.yes rfl
  replace HB := Lib.hid (HB.out.trans (hb.mono HB.out.size))
  clear hr hb c0 c1 c2 d0 d1 d2 l1 l2
  go_wp2_with fail
  refine (works32_c _).mono ?_
  rintro e w9 ⟨rfl, hb⟩
  have HEND := Lib.hid (HB.out.trans (hb.mono HB.out.size))
  clear hb
  go_wp2_with fail
  go_ret
  exact ⟨rfl, HEND.out⟩
end Go.Proofs.YtjjefdkadgkhfaaGreat
