/- The walk of CanaryBounded. -/
import Derived.Test.YtjjefdkadgkhfaaQG2
import Derived.Test.YtjjefdkadgkhfaaQE4
import Derived.Test.YtjjefdkadgkhfaaK19
set_option linter.unusedVariables false
namespace Go.Proofs.Ytjjefdkadgkhfaa
open Go.RowKit Go.Shelf

/-- What CanaryBounded asks of the numbers. -/
def Bnd (R : Ro) (x y : F) : Prop := ∃ p q lo hi c c2, (∃ c1, cmpF x y = (c1, 0) ∧ ((0 < c1 ∧ p = y ∧ q = x) ∨ (¬ 0 < c1 ∧ p = x ∧ q = y))) ∧ chanceF R p = (lo, 0) ∧ chanceF R q = (hi, 0) ∧ cmpF lo hi = (c, 0) ∧ ¬ 0 < c ∧ cmpF p R.rate = (c2, 0) ∧ (c2 ≤ 0 → ∃ m c3, opF mulN R.bound (ofF (R.waves.length : Int) 1).1 = (m, 0) ∧ cmpF lo m = (c3, 0) ∧ ¬ 0 < c3)

theorem VarF.ofH {w : World} {b : Nat} {x : F} {va vb : Value} (h : Box w b #[.bool x.neg, va, vb] 30) (k : IsF w (.agg #[.bool x.neg, va, vb]) x) : VarF w b x := by
  obtain ⟨_, h1, h2⟩ := k.parts
  exact ⟨va, vb, h, h1, h2⟩
theorem dull_ff {w : World} {B C : Nat} {s t : Bool} {p q r u : Option Addr} {n m c d n' m' c' d' : Nat} (h : Box w B #[.bool s, .slice p n c, .slice q m d] 30) (k : Box w C #[.bool t, .slice r n' c', .slice u m' d'] 30) : Dull (fun g => g = B ∨ g = C) w := by
  refine ⟨?_, ?_⟩
  · rintro g (rfl | rfl)
    · exact h.noTag (by decide) _ rfl
    · exact k.noTag (by decide) _ rfl
  · rintro g o z (rfl | rfl) hc
    · rw [h.cell] at hc
      rcases o with _ | _ | _ | o <;> simp at hc
    · rw [k.cell] at hc
      rcases o with _ | _ | _ | o <;> simp at hc
/-- Two variables of fractions change their values. -/
theorem two_swap {w : World} {B C : Nat} {x y : F} {p q r u : Option Addr} {c d c' d' : Nat} (E : Box w B #[.bool x.neg, .slice p x.num.length c, .slice q x.den.length d] 30) (E' : Box w C #[.bool y.neg, .slice r y.num.length c', .slice u y.den.length d'] 30) (hne : B ≠ C)
    (hx : IsF w (.agg #[.bool x.neg, .slice p x.num.length c, .slice q x.den.length d]) x) (hy : IsF w (.agg #[.bool y.neg, .slice r y.num.length c', .slice u y.den.length d']) y) {W : World}
    (hW : W = (((((w.setCell ⟨B, 0, none⟩ (.bool y.neg)).setCell ⟨B, 1, none⟩ (.slice r y.num.length c')).setCell ⟨B, 2, none⟩ (.slice u y.den.length d')).setCell ⟨C, 0, none⟩ (.bool x.neg)).setCell ⟨C, 1, none⟩ (.slice p x.num.length c)).setCell ⟨C, 2, none⟩ (.slice q x.den.length d)) :
    VarF W B y ∧ VarF W C x ∧ Fx (fun g => g = B ∨ g = C) w W := by
  have hd := dull_ff E E'
  have hg1 := grown_set3 w B (.bool y.neg) (.slice r y.num.length c') (.slice u y.den.length d')
  have hg2 := grown_set3 (((w.setCell ⟨B, 0, none⟩ (.bool y.neg)).setCell ⟨B, 1, none⟩ (.slice r y.num.length c')).setCell ⟨B, 2, none⟩ (.slice u y.den.length d')) C (.bool x.neg) (.slice p x.num.length c) (.slice q x.den.length d)
  have hf : Fx (fun g => g = B ∨ g = C) w W := hW ▸ (((Fx.refl _ w).of hg1 (.inl rfl)).of hg2 (.inr rfl))
  have e1 := (end_box (y0 := .bool y.neg) (y1 := .slice r y.num.length c') (y2 := .slice u y.den.length d') E).grown' hg2 (by intro e; injection e with e; omega)
  have e2 := end_box (y0 := .bool x.neg) (y1 := .slice p x.num.length c) (y2 := .slice q x.den.length d) (E'.grown' hg1 (by intro e; injection e with e; omega))
  rw [← hW] at e1 e2
  exact ⟨VarF.ofH e1 (hy.fx hf hd), VarF.ofH e2 (hx.fx hf hd), hf⟩
/-- Two fractions stored into variables, old or new. -/
theorem two_new {w : World} {x y : F} {va vb vc vd : Value} (hx : IsF w (.agg #[.bool x.neg, va, vb]) x) (hy : IsF w (.agg #[.bool y.neg, vc, vd]) y) :
    VarF ((w.alloc (.cells #[.bool x.neg, va, vb] 30)).alloc (.cells #[.bool y.neg, vc, vd] 30)) w.heap.size x ∧ VarF ((w.alloc (.cells #[.bool x.neg, va, vb] 30)).alloc (.cells #[.bool y.neg, vc, vd] 30)) (w.heap.size + 1) y := by
  refine ⟨(VarF.newH hx).after (held_alloc (Below.refl _ _)), ?_⟩
  have := VarF.newH (hy.alloc (.cells #[.bool x.neg, va, vb] 30))
  simpa using this
theorem one_new {w : World} {B : Nat} {x y : F} {va vb vc vd : Value} (E : Box w B #[.bool false, .slice none 0 0, .slice none 0 0] 30) (hx : IsF w (.agg #[.bool x.neg, va, vb]) x) (hy : IsF w (.agg #[.bool y.neg, vc, vd]) y) :
    VarF ((((w.setCell ⟨B, 0, none⟩ (.bool x.neg)).setCell ⟨B, 1, none⟩ va).setCell ⟨B, 2, none⟩ vb).alloc (.cells #[.bool y.neg, vc, vd] 30)) B x ∧ VarF ((((w.setCell ⟨B, 0, none⟩ (.bool x.neg)).setCell ⟨B, 1, none⟩ va).setCell ⟨B, 2, none⟩ vb).alloc (.cells #[.bool y.neg, vc, vd] 30)) w.heap.size y := by
  refine ⟨(VarF.putH E hx).after (held_alloc (Below.refl _ _)), ?_⟩
  have := VarF.newH (hy.set3 E (fun _ h => by cases h) (fun _ h => by cases h) (fun _ h => by cases h) (.bool x.neg) va vb)
  rw [show (((w.setCell ⟨B, 0, none⟩ (.bool x.neg)).setCell ⟨B, 1, none⟩ va).setCell ⟨B, 2, none⟩ vb).heap.size = w.heap.size by simp [World.setCell]] at this
  exact this
theorem two_old {w : World} {B C : Nat} {x y : F} {va vb vc vd : Value} (E : Box w B #[.bool false, .slice none 0 0, .slice none 0 0] 30) (E' : Box w C #[.bool false, .slice none 0 0, .slice none 0 0] 30) (hne : B ≠ C) (hx : IsF w (.agg #[.bool x.neg, va, vb]) x) (hy : IsF w (.agg #[.bool y.neg, vc, vd]) y) :
    VarF ((((((w.setCell ⟨B, 0, none⟩ (.bool x.neg)).setCell ⟨B, 1, none⟩ va).setCell ⟨B, 2, none⟩ vb).setCell ⟨C, 0, none⟩ (.bool y.neg)).setCell ⟨C, 1, none⟩ vc).setCell ⟨C, 2, none⟩ vd) B x ∧ VarF ((((((w.setCell ⟨B, 0, none⟩ (.bool x.neg)).setCell ⟨B, 1, none⟩ va).setCell ⟨B, 2, none⟩ vb).setCell ⟨C, 0, none⟩ (.bool y.neg)).setCell ⟨C, 1, none⟩ vc).setCell ⟨C, 2, none⟩ vd) C y := by
  have E2 := E'.grown' (grown_set3 w B (.bool x.neg) va vb) (by intro e; injection e with e; omega)
  refine ⟨(VarF.putH E hx).grown (grown_set3 _ C (.bool y.neg) vc vd) (fun g e => E2.noTag (by decide) g e) (by intro e; injection e with e; omega), ?_⟩
  exact VarF.putH E2 (hy.set3 E (fun _ h => by cases h) (fun _ h => by cases h) (fun _ h => by cases h) (.bool x.neg) va vb)

set_option maxRecDepth 100000 in
set_option maxHeartbeats 8000000 in
theorem canaryBounded_w (w : World) (v : Value) (h : Nat) (ws : List Nat) (r0 r1 b0 b1 a0 a1 c0 c1 : Nat) (k : IsS w v h ws r0 r1 b0 b1) (ha0 : a0 < 256) (ha1 : a1 < 256) (hc0 : c0 < 256) (hc1 : c1 < 256) (hB : Bnd (madeR h ws r0 r1 b0 b1 10) (partF2 a0 a1) (partF2 c0 c1)) :
    Calls Try.prog 3 #[v, .agg #[.int .u8 (a0 : Int), .int .u8 (a1 : Int)], .agg #[.int .u8 (c0 : Int), .int .u8 (c1 : Int)]] w fun e w' => e = .returned (.bool true) ∧ Below w.heap.size w w' := by
  have hk := k
  obtain ⟨_, vw, rfl, hsw⟩ := k
  obtain ⟨pw, cw, rfl, hw1, _, _, _⟩ := hsw
  have hlm : (List.map (fun z => Value.int IntKind.u8 ((z : Nat) : Int)) ws).length = ws.length := by simp
  rw [hlm] at hk ⊢
  clear hlm hw1
  obtain ⟨R, hR⟩ : ∃ R, madeR h ws r0 r1 b0 b1 10 = R := ⟨_, rfl⟩
  obtain ⟨x, hx⟩ : ∃ x, partF2 a0 a1 = x := ⟨_, rfl⟩
  obtain ⟨y, hy⟩ : ∃ y, partF2 c0 c1 = y := ⟨_, rfl⟩
  rw [hR, hx, hy] at hB
  have HX : Hid ((ofF ((a0 % (a1 % 30 + 2) : Nat) : Int) ((a1 % 30 + 1 : Nat) : Int)).1 = x) := hx
  have HY : Hid ((ofF ((c0 % (c1 % 30 + 2) : Nat) : Int) ((c1 % 30 + 1 : Nat) : Int)).1 = y) := hy
  have HRR := Lib.hid hR
  have HBND := Lib.hid hB
  obtain ⟨W0, hW, bS, bA, bC, hlt0, hb0⟩ : ∃ W0, W0 = ((w.alloc (.cells #[.int .u8 (h : Int), .slice pw ws.length cw, .int .u8 (r0 : Int), .int .u8 (r1 : Int), .int .u8 (b0 : Int), .int .u8 (b1 : Int)] 25)).alloc (.cells #[.int .u8 (a0 : Int), .int .u8 (a1 : Int)] 23)).alloc (.cells #[.int .u8 (c0 : Int), .int .u8 (c1 : Int)] 23) ∧ Box W0 w.heap.size #[.int .u8 (h : Int), .slice pw ws.length cw, .int .u8 (r0 : Int), .int .u8 (r1 : Int), .int .u8 (b0 : Int), .int .u8 (b1 : Int)] 25 ∧ Box W0 (w.heap.size + 1) #[.int .u8 (a0 : Int), .int .u8 (a1 : Int)] 23 ∧ Box W0 (w.heap.size + 2) #[.int .u8 (c0 : Int), .int .u8 (c1 : Int)] 23 ∧ w.heap.size + 2 < W0.heap.size ∧ Below w.heap.size w W0 := by
    refine ⟨_, rfl, ((Box.new w _ _).alloc _).alloc _, ?_, ?_, by simp, held_alloc (held_alloc (held_alloc (Below.refl _ w)))⟩
    · have := (Box.new (w.alloc (.cells #[.int .u8 (h : Int), .slice pw ws.length cw, .int .u8 (r0 : Int), .int .u8 (r1 : Int), .int .u8 (b0 : Int), .int .u8 (b1 : Int)] 25)) #[.int .u8 (a0 : Int), .int .u8 (a1 : Int)] 23).alloc (.cells #[.int .u8 (c0 : Int), .int .u8 (c1 : Int)] 23)
      simpa using this
    · have := Box.new ((w.alloc (.cells #[.int .u8 (h : Int), .slice pw ws.length cw, .int .u8 (r0 : Int), .int .u8 (r1 : Int), .int .u8 (b0 : Int), .int .u8 (b1 : Int)] 25)).alloc (.cells #[.int .u8 (a0 : Int), .int .u8 (a1 : Int)] 23)) #[.int .u8 (c0 : Int), .int .u8 (c1 : Int)] 23
      simpa using this
  have HS := Lib.hid (hk.after hb0)
  have BA := Lib.hid bA
  have BC := Lib.hid bC
  have HB := Lib.hid hb0
  have s0 : W0.cell? ⟨w.heap.size, 0, none⟩ = some (.int .u8 (h : Int)) := bS.cell 0
  have s1 : W0.cell? ⟨w.heap.size, 1, none⟩ = some (.slice pw ws.length cw) := bS.cell 1
  have s2 : W0.cell? ⟨w.heap.size, 2, none⟩ = some (.int .u8 (r0 : Int)) := bS.cell 2
  have s3 : W0.cell? ⟨w.heap.size, 3, none⟩ = some (.int .u8 (r1 : Int)) := bS.cell 3
  have s4 : W0.cell? ⟨w.heap.size, 4, none⟩ = some (.int .u8 (b0 : Int)) := bS.cell 4
  have s5 : W0.cell? ⟨w.heap.size, 5, none⟩ = some (.int .u8 (b1 : Int)) := bS.cell 5
  clear hk hx hy hR hB bS bA bC hb0
  go_enter Try.func3, Try.ntmps3
  go_upto_region 1 with fail
  rw [← hW]
  clear hW
  go_wp2_with fail
  refine (made_c _ _ h ws r0 r1 b0 b1 10 HS.out (by decide) (by decide)).mono ?_
  rw [HRR.out]
  rintro e w1 ⟨v1, rfl, hv, hb1⟩
  obtain ⟨p0, p1, p2, p3, p4, p5, k0, k1, k2, k3, k4, k5, rfl, _, _, _, _⟩ := hv.open
  clear s0 s1 s2 s3 s4 s5 HS
  go_upto_region 2 with fail
  obtain ⟨W1, hW1⟩ : ∃ W1, W1 = w1.alloc (.cells #[.slice p0 R.hosts.length k0, .slice p1 R.waves.length k1, .bool R.rate.neg, .slice p2 R.rate.num.length k2, .slice p3 R.rate.den.length k3, .bool R.bound.neg, .slice p4 R.bound.num.length k4, .slice p5 R.bound.den.length k5] 32) := ⟨_, rfl⟩
  have hbn : Below w1.heap.size w1 W1 := hW1 ▸ held_alloc (Below.refl _ w1)
  have BR := Lib.hid (show Box W1 w1.heap.size #[.slice p0 R.hosts.length k0, .slice p1 R.waves.length k1, .bool R.rate.neg, .slice p2 R.rate.num.length k2, .slice p3 R.rate.den.length k3, .bool R.bound.neg, .slice p4 R.bound.num.length k4, .slice p5 R.bound.den.length k5] 32 from hW1 ▸ Box.new w1 _ _)
  have HR := Lib.hid (show IsR W1 (.agg #[.slice p0 R.hosts.length k0, .slice p1 R.waves.length k1, .bool R.rate.neg, .slice p2 R.rate.num.length k2, .slice p3 R.rate.den.length k3, .bool R.bound.neg, .slice p4 R.bound.num.length k4, .slice p5 R.bound.den.length k5]) R from hv.after hbn)
  have hbb := hb1.trans (hbn.mono hb1.size)
  obtain ⟨H, hH⟩ : ∃ H, w1.heap.size = H := ⟨_, rfl⟩
  rw [hH] at BR
  have hH1 : w.heap.size + 2 < H := by have := hb1.size; omega
  replace BA := Lib.hid (BA.out.after hbb)
  replace BC := Lib.hid (BC.out.after hbb)
  replace HB := Lib.hid (HB.out.trans (hbb.mono HB.out.size))
  rw [← hW1, hH]
  clear hW1 hbn hbb hb1 hv hH hlt0
  have ca0 : W1.cell? ⟨w.heap.size + 1, 0, none⟩ = some (.int .u8 (a0 : Int)) := BA.out.cell 0
  have ca1 : W1.cell? ⟨w.heap.size + 1, 1, none⟩ = some (.int .u8 (a1 : Int)) := BA.out.cell 1
  have cc0 : W1.cell? ⟨w.heap.size + 1 + 1, 0, none⟩ = some (.int .u8 (c0 : Int)) := BC.out.cell 0
  have cc1 : W1.cell? ⟨w.heap.size + 1 + 1, 1, none⟩ = some (.int .u8 (c1 : Int)) := BC.out.cell 1
  have mkS : Hid (∀ w', Below W1.heap.size W1 w' → (w'.cell? ⟨w.heap.size + 1, 0, none⟩ = some (.int .u8 (a0 : Int)) ∧ w'.cell? ⟨w.heap.size + 1, 1, none⟩ = some (.int .u8 (a1 : Int))) ∧ (w'.cell? ⟨w.heap.size + 1 + 1, 0, none⟩ = some (.int .u8 (c0 : Int)) ∧ w'.cell? ⟨w.heap.size + 1 + 1, 1, none⟩ = some (.int .u8 (c1 : Int)))) := fun w' hb => ⟨⟨keep_cell hb ca0, keep_cell hb ca1⟩, keep_cell hb cc0, keep_cell hb cc1⟩
  go_cut [8, 9] (fun x8 x9 wx => ∃ X Y : Nat, x8 = .pointer (some ⟨X, 0, none⟩) ∧ x9 = .pointer (some ⟨Y, 0, none⟩) ∧ X ≠ Y ∧ W1.heap.size ≤ X ∧ W1.heap.size ≤ Y ∧ Hid (VarF wx X x ∧ VarF wx Y y) ∧ Hid (Below W1.heap.size W1 wx))
  case first =>
    go_region_held3 (fun w' => (w'.cell? ⟨w.heap.size + 1, 0, none⟩ = some (.int .u8 (a0 : Int)) ∧ w'.cell? ⟨w.heap.size + 1, 1, none⟩ = some (.int .u8 (a1 : Int))) ∧ (w'.cell? ⟨w.heap.size + 1 + 1, 0, none⟩ = some (.int .u8 (c0 : Int)) ∧ w'.cell? ⟨w.heap.size + 1 + 1, 1, none⟩ = some (.int .u8 (c1 : Int))))
      (first | (refine mkS.out _ ?_; repeat (first | with_reducible exact hk2 | with_reducible exact hk1 | with_reducible exact Below.refl _ _ | with_reducible refine below_dr ?_ | with_reducible refine held_alloc ?_ | with_reducible refine held_set ?_ (by first | exact Nat.le_refl _ | exact Nat.le_succ _ | exact hk1.size | exact Nat.le_succ_of_le hk1.size | exact hk2.size | exact Nat.le_succ_of_le hk2.size))))
      (first
       | (go_at_call_of 9 a0; refine (part_c _ a0 a1 ha0 ha1).mono ?_; rw [HX.out]; rintro e wa ⟨v1, rfl, hv1, hb1⟩; obtain ⟨vx1, vx2, rfl, i1, i2⟩ := hv1; obtain ⟨a2, e2, rfl, _, _⟩ := i1.shape; obtain ⟨a3, e3, rfl, _, _⟩ := i2.shape; have hx1 := IsF.at_ i1 i2; have hh : Below W1.heap.size W1 wa ∧ Box wa W1.heap.size #[.bool false, .slice none 0 0, .slice none 0 0] 30 ∧ Box wa (W1.heap.size + 1) #[.bool false, .slice none 0 0, .slice none 0 0] 30 := after_new2 (below_of_drew hb1); obtain ⟨hk1, D1, D2⟩ := hh; obtain ⟨⟨t0, t1⟩, t2, t3⟩ := mkS.out _ hk1)
       | (go_at_call_of 9 a0; refine (part_c _ a0 a1 ha0 ha1).mono ?_; rw [HX.out]; rintro e wa ⟨v1, rfl, hv1, hb1⟩; obtain ⟨vx1, vx2, rfl, i1, i2⟩ := hv1; obtain ⟨a2, e2, rfl, _, _⟩ := i1.shape; obtain ⟨a3, e3, rfl, _, _⟩ := i2.shape; have hx1 := IsF.at_ i1 i2; have hh : Below W1.heap.size W1 wa ∧ Box wa W1.heap.size #[.bool false, .slice none 0 0, .slice none 0 0] 30 := after_new (below_of_drew hb1); obtain ⟨hk1, D1⟩ := hh; obtain ⟨⟨t0, t1⟩, t2, t3⟩ := mkS.out _ hk1)
       | (go_at_call_of 9 a0; refine (part_c _ a0 a1 ha0 ha1).mono ?_; rw [HX.out]; rintro e wa ⟨v1, rfl, hv1, hb1⟩; obtain ⟨vx1, vx2, rfl, i1, i2⟩ := hv1; obtain ⟨a2, e2, rfl, _, _⟩ := i1.shape; obtain ⟨a3, e3, rfl, _, _⟩ := i2.shape; have hx1 := IsF.at_ i1 i2; have hk1 : Below W1.heap.size W1 wa := below_of_drew hb1; obtain ⟨⟨t0, t1⟩, t2, t3⟩ := mkS.out _ hk1)
       | (go_at_call_of 9 c0; refine (part_c _ c0 c1 hc0 hc1).mono ?_; rw [HY.out]; rintro e wb ⟨v2, rfl, hv2, hb2⟩; obtain ⟨vy1, vy2, rfl, i3, i4⟩ := hv2; obtain ⟨a4, e4, rfl, _, _⟩ := i3.shape; obtain ⟨a5, e5, rfl, _, _⟩ := i4.shape; have hyy := IsF.at_ i3 i4; have E1 := D1.after hb2; have E2 : Box wb (W1.heap.size + 1) #[.bool false, .slice none 0 0, .slice none 0 0] 30 := D2.after hb2; have hxx := hx1.after hb2; have hk2 := hk1.trans (hb2.mono hk1.size); obtain ⟨z0, z1, z2⟩ := E1.cells3; have f0 := E1.frozen 0; have f1 := E1.frozen 1; have f2 := E1.frozen 2; have lz := E1.lt; obtain ⟨y0, y1, y2⟩ := E2.cells3; have g0 := E2.frozen 0; have g1 := E2.frozen 1; have g2 := E2.frozen 2; have ly := E2.lt)
       | (go_at_call_of 9 c0; refine (part_c _ c0 c1 hc0 hc1).mono ?_; rw [HY.out]; rintro e wb ⟨v2, rfl, hv2, hb2⟩; obtain ⟨vy1, vy2, rfl, i3, i4⟩ := hv2; obtain ⟨a4, e4, rfl, _, _⟩ := i3.shape; obtain ⟨a5, e5, rfl, _, _⟩ := i4.shape; have hyy := IsF.at_ i3 i4; have hh : Below wa.heap.size wa wb ∧ Box wb wa.heap.size #[.bool false, .slice none 0 0, .slice none 0 0] 30 := after_new hb2; obtain ⟨hb3, E2⟩ := hh; have E1 : Box wb W1.heap.size #[.bool false, .slice none 0 0, .slice none 0 0] 30 := D1.after hb3; have hxx := hx1.after hb3; have hk2 := hk1.trans (hb3.mono hk1.size); have d12 := D1.lt; have d12' := Nat.ne_of_lt d12; obtain ⟨z0, z1, z2⟩ := E1.cells3; have f0 := E1.frozen 0; have f1 := E1.frozen 1; have f2 := E1.frozen 2; have lz := E1.lt; obtain ⟨y0, y1, y2⟩ := E2.cells3; have g0 := E2.frozen 0; have g1 := E2.frozen 1; have g2 := E2.frozen 2; have ly := E2.lt)
       | (go_at_call_of 9 c0; refine (part_c _ c0 c1 hc0 hc1).mono ?_; rw [HY.out]; rintro e wb ⟨v2, rfl, hv2, hb2⟩; obtain ⟨vy1, vy2, rfl, i3, i4⟩ := hv2; obtain ⟨a4, e4, rfl, _, _⟩ := i3.shape; obtain ⟨a5, e5, rfl, _, _⟩ := i4.shape; have hyy := IsF.at_ i3 i4; have hh : Below wa.heap.size wa wb ∧ Box wb wa.heap.size #[.bool false, .slice none 0 0, .slice none 0 0] 30 ∧ Box wb (wa.heap.size + 1) #[.bool false, .slice none 0 0, .slice none 0 0] 30 := after_new2 hb2; obtain ⟨hb3, E1, E2⟩ := hh; have hxx := hx1.after hb3; have hk2 := hk1.trans (hb3.mono hk1.size); obtain ⟨z0, z1, z2⟩ := E1.cells3; have f0 := E1.frozen 0; have f1 := E1.frozen 1; have f2 := E1.frozen 2; have lz := E1.lt; obtain ⟨y0, y1, y2⟩ := E2.cells3; have g0 := E2.frozen 0; have g1 := E2.frozen 1; have g2 := E2.frozen 2; have ly := E2.lt)
       | (go_at_call_of 9 c0; refine (part_c _ c0 c1 hc0 hc1).mono ?_; rw [HY.out]; rintro e wb ⟨v2, rfl, hv2, hb2⟩; obtain ⟨vy1, vy2, rfl, i3, i4⟩ := hv2; obtain ⟨a4, e4, rfl, _, _⟩ := i3.shape; obtain ⟨a5, e5, rfl, _, _⟩ := i4.shape; have hyy := IsF.at_ i3 i4; have E1 : Box wb W1.heap.size #[.bool false, .slice none 0 0, .slice none 0 0] 30 := D1.after hb2; have hxx := hx1.after hb2; have hk2 := hk1.trans (hb2.mono hk1.size); obtain ⟨z0, z1, z2⟩ := E1.cells3; have f0 := E1.frozen 0; have f1 := E1.frozen 1; have f2 := E1.frozen 2; have lz := E1.lt)
       | (go_at_call_of 9 c0; refine (part_c _ c0 c1 hc0 hc1).mono ?_; rw [HY.out]; rintro e wb ⟨v2, rfl, hv2, hb2⟩; obtain ⟨vy1, vy2, rfl, i3, i4⟩ := hv2; obtain ⟨a4, e4, rfl, _, _⟩ := i3.shape; obtain ⟨a5, e5, rfl, _, _⟩ := i4.shape; have hyy := IsF.at_ i3 i4; have hh : Below wa.heap.size wa wb ∧ Box wb wa.heap.size #[.bool false, .slice none 0 0, .slice none 0 0] 30 := after_new hb2; obtain ⟨hb3, E1⟩ := hh; have hxx := hx1.after hb3; have hk2 := hk1.trans (hb3.mono hk1.size); obtain ⟨z0, z1, z2⟩ := E1.cells3; have f0 := E1.frozen 0; have f1 := E1.frozen 1; have f2 := E1.frozen 2; have lz := E1.lt)
       | (go_at_call_of 9 c0; refine (part_c _ c0 c1 hc0 hc1).mono ?_; rw [HY.out]; rintro e wb ⟨v2, rfl, hv2, hb2⟩; obtain ⟨vy1, vy2, rfl, i3, i4⟩ := hv2; obtain ⟨a4, e4, rfl, _, _⟩ := i3.shape; obtain ⟨a5, e5, rfl, _, _⟩ := i4.shape; have hyy := IsF.at_ i3 i4; have hxx := hx1.after hb2; have hk2 := hk1.trans (hb2.mono hk1.size))
       | (fail))
    all_goals
      (go_wp2_with fail
       go_meet
       case rel =>
         first
         | (exact ⟨_, _, rfl, rfl, by omega, hk2.size, Nat.le_succ_of_le hk2.size, Lib.hid (two_new hxx hyy), Lib.hid (held_alloc (held_alloc hk2))⟩)
         | (exact ⟨_, _, rfl, rfl, by omega, Nat.le_succ_of_le hk2.size, hk2.size, Lib.hid (two_new hyy hxx).symm, Lib.hid (held_alloc (held_alloc hk2))⟩)
         | (exact ⟨_, _, rfl, rfl, by omega, by first | exact hk1.size | exact Nat.le_refl _, hk2.size, Lib.hid (one_new E1 hxx hyy), Lib.hid (held_alloc (Below.putH hk2 (by first | exact hk1.size | exact Nat.le_refl _)))⟩)
         | (exact ⟨_, _, rfl, rfl, by omega, hk2.size, by first | exact hk1.size | exact Nat.le_refl _, Lib.hid (one_new E1 hyy hxx).symm, Lib.hid (held_alloc (Below.putH hk2 (by first | exact hk1.size | exact Nat.le_refl _)))⟩)
         | (exact ⟨_, _, rfl, rfl, by omega, by first | exact hk1.size | exact Nat.le_refl _, by first | exact hk1.size | exact Nat.le_succ_of_le hk1.size | exact Nat.le_succ _, Lib.hid (two_old E1 E2 (by omega) hxx hyy), Lib.hid (Below.putH (Below.putH hk2 (by first | exact hk1.size | exact Nat.le_refl _)) (by first | exact hk1.size | exact Nat.le_succ_of_le hk1.size | exact Nat.le_succ _))⟩)
         | (exact ⟨_, _, rfl, rfl, by omega, by first | exact hk1.size | exact Nat.le_succ_of_le hk1.size | exact Nat.le_succ _, by first | exact hk1.size | exact Nat.le_refl _, Lib.hid (two_old E2 E1 (by omega) hxx hyy), Lib.hid (Below.putH (Below.putH hk2 (by first | exact hk1.size | exact Nat.le_succ_of_le hk1.size | exact Nat.le_succ _)) (by first | exact hk1.size | exact Nat.le_refl _))⟩))
  case rest =>
  obtain ⟨X, Y, rfl, rfl, hXY, hX, hY, hV, hbc⟩ := hcut
  have hb := hbc.out
  have hHW := BR.out.lt
  replace HB := Lib.hid (HB.out.trans (hb.mono HB.out.size))
  replace BR := Lib.hid (BR.out.after hb)
  replace HR := Lib.hid (HR.out.after hb)
  have hXH : H < X := by omega
  have hYH : H < Y := by omega
  clear hb hbc mkS ca0 ca1 cc0 cc1 BA BC HX HY HRR
  obtain ⟨p, q, lo, hi, c, c2, ⟨cc, hcc, hsw⟩, hlo, hhi, hcl, hcn, hc2, hrest⟩ := HBND.out
  have HCC := Lib.hid hcc
  have HLO := Lib.hid hlo
  have HHI := Lib.hid hhi
  have HCL := Lib.hid hcl
  have HC2 := Lib.hid hc2
  have HREST := Lib.hid hrest
  clear hcc hlo hhi hcl hc2 hrest HBND
  obtain ⟨xa, xb, xbox, xs1, xs2⟩ := hV.out.1
  obtain ⟨px, mx, rfl, _, _⟩ := xs1.shape
  obtain ⟨qx, nx, rfl, _, _⟩ := xs2.shape
  have BX := Lib.hid xbox
  have FX := Lib.hid (IsF.at_ xs1 xs2)
  obtain ⟨x0, x1, x2⟩ := xbox.cells3
  have lX := xbox.lt
  clear xbox xs1 xs2
  obtain ⟨ya, yb, ybox, ys1, ys2⟩ := hV.out.2
  obtain ⟨py, my, rfl, _, _⟩ := ys1.shape
  obtain ⟨qy, ny, rfl, _, _⟩ := ys2.shape
  have BY := Lib.hid ybox
  have FY := Lib.hid (IsF.at_ ys1 ys2)
  obtain ⟨y0, y1, y2⟩ := ybox.cells3
  have lY := ybox.lt
  clear ybox ys1 ys2
  go_wp2_with fail
  refine (Cmp_c _ _ _ x y FX.out FY.out).mono ?_
  rw [HCC.out]
  rintro e w3 ⟨rfl, hb⟩
  replace BX := Lib.hid (BX.out.after hb)
  replace BY := Lib.hid (BY.out.after hb)
  replace FX := Lib.hid (FX.out.after hb)
  replace FY := Lib.hid (FY.out.after hb)
  replace BR := Lib.hid (BR.out.after hb)
  replace HR := Lib.hid (HR.out.after hb)
  replace HB := Lib.hid (HB.out.trans (hb.mono HB.out.size))
  clear hb x0 x1 x2 y0 y1 y2 lX lY hV hHW
  go_upto_if 37 with fail
  go_cut [10] (fun x10 wx => x10 = .int .i64 cc ∧ Hid (VarF wx X p) ∧ Hid (VarF wx Y q) ∧ Hid (Box wx H #[.slice p0 R.hosts.length k0, .slice p1 R.waves.length k1, .bool R.rate.neg, .slice p2 R.rate.num.length k2, .slice p3 R.rate.den.length k3, .bool R.bound.neg, .slice p4 R.bound.num.length k4, .slice p5 R.bound.den.length k5] 32) ∧ Hid (IsR wx (.agg #[.slice p0 R.hosts.length k0, .slice p1 R.waves.length k1, .bool R.rate.neg, .slice p2 R.rate.num.length k2, .slice p3 R.rate.den.length k3, .bool R.bound.neg, .slice p4 R.bound.num.length k4, .slice p5 R.bound.den.length k5]) R) ∧ Hid (Below w.heap.size w wx))
  case first =>
    rcases hsw with ⟨hgt, rfl, rfl⟩ | ⟨hgt, rfl, rfl⟩
    · obtain ⟨x0, x1, x2⟩ := BX.out.cells3
      obtain ⟨y0, y1, y2⟩ := BY.out.cells3
      have fx0 := BX.out.frozen 0
      have fx1 := BX.out.frozen 1
      have fx2 := BX.out.frozen 2
      have fy0 := BY.out.frozen 0
      have fy1 := BY.out.frozen 1
      have fy2 := BY.out.frozen 2
      have lX := BX.out.lt
      have lY := BY.out.lt
      go_wp2_with fail
      go_meet
      case rel => 
        obtain ⟨h1, h2, h3⟩ := two_swap BX.out BY.out hXY FX.out FY.out rfl
        exact ⟨rfl, Lib.hid h1, Lib.hid h2, Lib.hid (BR.out.fx h3 (by omega)), Lib.hid (HR.out.fx h3 (dull_ff BX.out BY.out)), Lib.hid (HB.out.trans (h3.toBelow HB.out.size (fun g e => by rcases e with rfl | rfl <;> omega)))⟩
    · go_wp2_with fail
      go_meet
      case rel => exact ⟨rfl, Lib.hid (VarF.ofH BX.out FX.out), Lib.hid (VarF.ofH BY.out FY.out), BR, HR, HB⟩
  case rest =>
  obtain ⟨rfl, hVX, hVY, BR', HR', HB'⟩ := hcut
  clear BR HR HB BX BY FX FY hsw
  have BR := BR'
  have HR := HR'
  have HB := HB'
  clear BR' HR' HB'
  obtain ⟨xa, xb, xbox, xs1, xs2⟩ := hVX.out
  obtain ⟨px, mx, rfl, _, _⟩ := xs1.shape
  obtain ⟨qx, nx, rfl, _, _⟩ := xs2.shape
  have BX := Lib.hid xbox
  have FX := Lib.hid (IsF.at_ xs1 xs2)
  obtain ⟨x0, x1, x2⟩ := xbox.cells3
  have lX := xbox.lt
  clear xbox xs1 xs2
  obtain ⟨ya, yb, ybox, ys1, ys2⟩ := hVY.out
  obtain ⟨py, my, rfl, _, _⟩ := ys1.shape
  obtain ⟨qy, ny, rfl, _, _⟩ := ys2.shape
  have BY := Lib.hid ybox
  have FY := Lib.hid (IsF.at_ ys1 ys2)
  obtain ⟨y0, y1, y2⟩ := ybox.cells3
  have lY := ybox.lt
  clear ybox ys1 ys2
  clear x0 x1 x2 y0 y1 y2 lX lY hVX hVY
  obtain ⟨r0', r1', r2', r3', r4', r5', r6', r7'⟩ := BR.out.cells8
  obtain ⟨x0, x1, x2⟩ := BX.out.cells3
  have lX := BX.out.lt
  have lR := BR.out.lt
  go_wp2_with fail
  refine (Chance_c _ _ _ R p HR.out FX.out).mono ?_
  rw [HLO.out]
  rintro e w4 ⟨v4, rfl, hv, hb⟩
  have hv : IsF w4 v4 lo := hv
  obtain ⟨vz1, vz2, rfl, g1, g2⟩ := hv
  obtain ⟨pl, ml, rfl, _, _⟩ := g1.shape
  obtain ⟨ql, nl, rfl, _, _⟩ := g2.shape
  go_upto_region 7 with fail
  obtain ⟨Ww4, hW⟩ : ∃ Ww4, Ww4 = w4.alloc (.cells #[.bool lo.neg, .slice pl lo.num.length ml, .slice ql lo.den.length nl] 30) := ⟨_, rfl⟩
  have hb' : Below w4.heap.size w4 Ww4 := hW ▸ held_alloc (Below.refl _ w4)
  have BL := Lib.hid (show Box Ww4 w4.heap.size #[.bool lo.neg, .slice pl lo.num.length ml, .slice ql lo.den.length nl] 30 from hW ▸ Box.new w4 _ _)
  have FL := Lib.hid (show IsF Ww4 (.agg #[.bool lo.neg, .slice pl lo.num.length ml, .slice ql lo.den.length nl]) lo from ⟨_, _, rfl, g1.after hb', g2.after hb'⟩)
  have hbb := hb.trans (hb'.mono hb.size)
  replace BX := Lib.hid (BX.out.after hbb)
  replace FX := Lib.hid (FX.out.after hbb)
  replace BY := Lib.hid (BY.out.after hbb)
  replace FY := Lib.hid (FY.out.after hbb)
  replace BR := Lib.hid (BR.out.after hbb)
  replace HR := Lib.hid (HR.out.after hbb)
  replace HB := Lib.hid (HB.out.trans (hbb.mono HB.out.size))
  rw [← hW]
  clear hW hb' hbb hb g1 g2 x0 x1 x2 r0' r1' r2' r3' r4' r5' r6' r7' lX lR
  obtain ⟨r0', r1', r2', r3', r4', r5', r6', r7'⟩ := BR.out.cells8
  obtain ⟨x0, x1, x2⟩ := BY.out.cells3
  have lX := BY.out.lt
  have lR := BR.out.lt
  go_wp2_with fail
  refine (Chance_c _ _ _ R q HR.out FY.out).mono ?_
  rw [HHI.out]
  rintro e w5 ⟨v5, rfl, hv, hb⟩
  have hv : IsF w5 v5 hi := hv
  obtain ⟨vz1, vz2, rfl, g1, g2⟩ := hv
  obtain ⟨ph, mh, rfl, _, _⟩ := g1.shape
  obtain ⟨qh, nh, rfl, _, _⟩ := g2.shape
  go_upto_region 8 with fail
  obtain ⟨Ww5, hW⟩ : ∃ Ww5, Ww5 = w5.alloc (.cells #[.bool hi.neg, .slice ph hi.num.length mh, .slice qh hi.den.length nh] 30) := ⟨_, rfl⟩
  have hb' : Below w5.heap.size w5 Ww5 := hW ▸ held_alloc (Below.refl _ w5)
  have BH := Lib.hid (show Box Ww5 w5.heap.size #[.bool hi.neg, .slice ph hi.num.length mh, .slice qh hi.den.length nh] 30 from hW ▸ Box.new w5 _ _)
  have FH := Lib.hid (show IsF Ww5 (.agg #[.bool hi.neg, .slice ph hi.num.length mh, .slice qh hi.den.length nh]) hi from ⟨_, _, rfl, g1.after hb', g2.after hb'⟩)
  have hbb := hb.trans (hb'.mono hb.size)
  replace BX := Lib.hid (BX.out.after hbb)
  replace FX := Lib.hid (FX.out.after hbb)
  replace BY := Lib.hid (BY.out.after hbb)
  replace FY := Lib.hid (FY.out.after hbb)
  replace BR := Lib.hid (BR.out.after hbb)
  replace HR := Lib.hid (HR.out.after hbb)
  replace BL := Lib.hid (BL.out.after hbb)
  replace FL := Lib.hid (FL.out.after hbb)
  replace HB := Lib.hid (HB.out.trans (hbb.mono HB.out.size))
  rw [← hW]
  clear hW hb' hbb hb g1 g2 x0 x1 x2 r0' r1' r2' r3' r4' r5' r6' r7' lX lR
  obtain ⟨d0, d1, d2⟩ := BL.out.cells3
  obtain ⟨e0, e1, e2⟩ := BH.out.cells3
  have lL := BL.out.lt
  have lH := BH.out.lt
  go_wp2_with fail
  refine (Cmp_c _ _ _ lo hi FL.out FH.out).mono ?_
  rw [HCL.out]
  rintro e w6 ⟨rfl, hb⟩
  replace BX := Lib.hid (BX.out.after hb)
  replace FX := Lib.hid (FX.out.after hb)
  replace BY := Lib.hid (BY.out.after hb)
  replace FY := Lib.hid (FY.out.after hb)
  replace BR := Lib.hid (BR.out.after hb)
  replace HR := Lib.hid (HR.out.after hb)
  replace BL := Lib.hid (BL.out.after hb)
  replace FL := Lib.hid (FL.out.after hb)
  replace BH := Lib.hid (BH.out.after hb)
  replace FH := Lib.hid (FH.out.after hb)
  replace HB := Lib.hid (HB.out.trans (hb.mono HB.out.size))
  clear hb d0 d1 d2 e0 e1 e2 lL lH
  obtain ⟨x0, x1, x2⟩ := BX.out.cells3
  obtain ⟨r0', r1', r2', r3', r4', r5', r6', r7'⟩ := BR.out.cells8
  have lX := BX.out.lt
  have lR := BR.out.lt
  go_wp2_with fail
  refine (Cmp_c _ _ _ p R.rate FX.out HR.out.parts.2.2.1).mono ?_
  rw [HC2.out]
  rintro e w7 ⟨rfl, hb⟩
  replace BX := Lib.hid (BX.out.after hb)
  replace FX := Lib.hid (FX.out.after hb)
  replace BY := Lib.hid (BY.out.after hb)
  replace FY := Lib.hid (FY.out.after hb)
  replace BR := Lib.hid (BR.out.after hb)
  replace HR := Lib.hid (HR.out.after hb)
  replace BL := Lib.hid (BL.out.after hb)
  replace FL := Lib.hid (FL.out.after hb)
  replace BH := Lib.hid (BH.out.after hb)
  replace FH := Lib.hid (FH.out.after hb)
  replace HB := Lib.hid (HB.out.trans (hb.mono HB.out.size))
  clear hb x0 x1 x2 r0' r1' r2' r3' r4' r5' r6' r7' lX lR
  by_cases hle : c2 ≤ 0
  · obtain ⟨m, c3, hm, hc3, hcn3⟩ := HREST.out hle
    have HM := Lib.hid hm
    have HC3 := Lib.hid hc3
    clear hm hc3
    go_upto_region 13 with fail
    have hb0 := HR.out.parts.2.2.2
    obtain ⟨_, _, _, hwl1, hwl2, _⟩ := HR.out.parts.2.1.shape
    have HBD := Lib.hid hb0
    have HW1 : Hid ((R.waves.length : Int) ≤ 9223372036854775807) := by show _ ≤ _; omega
    have HW0 : Hid (-9223372036854775808 ≤ (R.waves.length : Int)) := by show _ ≤ _; omega
    obtain ⟨o, ho⟩ : ∃ o, (ofF (R.waves.length : Int) 1).1 = o := ⟨_, rfl⟩
    rw [ho] at HM
    have HO := Lib.hid ho
    obtain ⟨r0', r1', r2', r3', r4', r5', r6', r7'⟩ := BR.out.cells8
    have mkS : Hid (∀ w', Below w7.heap.size w7 w' → w'.cell? ⟨H, 1, none⟩ = some (.slice p1 R.waves.length k1) ∧ w'.cell? ⟨H, 5, none⟩ = some (.bool R.bound.neg) ∧ w'.cell? ⟨H, 6, none⟩ = some (.slice p4 R.bound.num.length k4) ∧ w'.cell? ⟨H, 7, none⟩ = some (.slice p5 R.bound.den.length k5)) := fun w' hb => ⟨keep_cell hb r1', keep_cell hb r5', keep_cell hb r6', keep_cell hb r7'⟩
    clear ho hb0 hwl1 hwl2 r0' r2' r3' r4'
    go_cut [20, 21] (fun x20 x21 wx => ∃ M : Nat, x20 = .pointer (some ⟨M, 0, none⟩) ∧ x21 = .int .i64 0 ∧ Hid (VarF wx M m) ∧ Hid (Below w7.heap.size w7 wx))
    case first =>
      go_region_held3 (fun w' => w'.cell? ⟨H, 1, none⟩ = some (.slice p1 R.waves.length k1) ∧ w'.cell? ⟨H, 5, none⟩ = some (.bool R.bound.neg) ∧ w'.cell? ⟨H, 6, none⟩ = some (.slice p4 R.bound.num.length k4) ∧ w'.cell? ⟨H, 7, none⟩ = some (.slice p5 R.bound.den.length k5))
        (first | (refine mkS.out _ ?_; repeat (first | with_reducible exact hk2 | with_reducible exact hk1 | with_reducible exact Below.refl _ _ | with_reducible refine below_dr ?_ | with_reducible refine held_alloc ?_ | with_reducible refine held_set ?_ (by first | exact Nat.le_refl _ | exact hk1.size | exact hk2.size))))
        (first
         | (go_at_call 13; refine (of32_c _ (R.waves.length : Int) 1 HW0.out HW1.out (by omega) (by omega)).mono ?_; rw [HO.out]; rintro e wa ⟨v1, rfl, hx1, hb1⟩; obtain ⟨vx1, vx2, rfl, i1, i2⟩ := hx1; obtain ⟨a2, e2, rfl, _, _⟩ := i1.shape; obtain ⟨a3, e3, rfl, _, _⟩ := i2.shape; have hx1 := IsF.at_ i1 i2; have hh : Below w7.heap.size w7 wa ∧ Box wa w7.heap.size #[.bool false, .slice none 0 0, .slice none 0 0] 30 := after_new (below_of_drew hb1); obtain ⟨hk1, D1⟩ := hh; obtain ⟨t0, t1, t2, t3⟩ := mkS.out _ hk1)
         | (go_at_call 13; refine (of32_c _ (R.waves.length : Int) 1 HW0.out HW1.out (by omega) (by omega)).mono ?_; rw [HO.out]; rintro e wa ⟨v1, rfl, hx1, hb1⟩; obtain ⟨vx1, vx2, rfl, i1, i2⟩ := hx1; obtain ⟨a2, e2, rfl, _, _⟩ := i1.shape; obtain ⟨a3, e3, rfl, _, _⟩ := i2.shape; have hx1 := IsF.at_ i1 i2; have hk1 : Below w7.heap.size w7 wa := below_of_drew hb1; obtain ⟨t0, t1, t2, t3⟩ := mkS.out _ hk1)
         | (go_at_call 12; refine (Mul_c _ _ _ R.bound o (HBD.out.after hk1) (hx1)).mono ?_; rw [HM.out]; rintro e wb ⟨v2, rfl, hv2, hb2⟩; have hv2 : IsF wb v2 m := hv2; obtain ⟨vy1, vy2, rfl, i3, i4⟩ := hv2; obtain ⟨a4, e4, rfl, _, _⟩ := i3.shape; obtain ⟨a5, e5, rfl, _, _⟩ := i4.shape; have hyy := IsF.at_ i3 i4; have E1 : Box wb w7.heap.size #[.bool false, .slice none 0 0, .slice none 0 0] 30 := D1.after hb2; have hk2 := hk1.trans (hb2.mono hk1.size); obtain ⟨z0, z1, z2⟩ := E1.cells3; have f0 := E1.frozen 0; have f1 := E1.frozen 1; have f2 := E1.frozen 2; have lz := E1.lt)
         | (go_at_call 12; refine (Mul_c _ _ _ R.bound o (HBD.out.after (held_alloc hk1)) (hx1.alloc _)).mono ?_; rw [HM.out]; rintro e wb ⟨v2, rfl, hv2, hb2⟩; have hv2 : IsF wb v2 m := hv2; obtain ⟨vy1, vy2, rfl, i3, i4⟩ := hv2; obtain ⟨a4, e4, rfl, _, _⟩ := i3.shape; obtain ⟨a5, e5, rfl, _, _⟩ := i4.shape; have hyy := IsF.at_ i3 i4; have hh : Below wa.heap.size wa wb ∧ Box wb wa.heap.size #[.bool false, .slice none 0 0, .slice none 0 0] 30 := after_new hb2; obtain ⟨hb3, E1⟩ := hh; have hk2 := hk1.trans (hb3.mono hk1.size); obtain ⟨z0, z1, z2⟩ := E1.cells3; have f0 := E1.frozen 0; have f1 := E1.frozen 1; have f2 := E1.frozen 2; have lz := E1.lt)
         | (go_at_call 12; refine (Mul_c _ _ _ R.bound o (HBD.out.after hk1) (hx1)).mono ?_; rw [HM.out]; rintro e wb ⟨v2, rfl, hv2, hb2⟩; have hv2 : IsF wb v2 m := hv2; obtain ⟨vy1, vy2, rfl, i3, i4⟩ := hv2; obtain ⟨a4, e4, rfl, _, _⟩ := i3.shape; obtain ⟨a5, e5, rfl, _, _⟩ := i4.shape; have hyy := IsF.at_ i3 i4; have hk2 := hk1.trans (hb2.mono hk1.size))
         | (fail))
      all_goals
        (go_wp2_with fail
         go_meet
         case rel =>
           first
           | (exact ⟨_, rfl, rfl, Lib.hid (VarF.putH E1 hyy), Lib.hid (Below.putH hk2 (by first | exact Nat.le_refl _ | exact hk1.size))⟩)
           | (exact ⟨_, rfl, rfl, Lib.hid (VarF.newH hyy), Lib.hid (held_alloc hk2)⟩))
    case rest =>
    obtain ⟨M, rfl, rfl, hVM, hbc⟩ := hcut
    have hb := hbc.out
    replace BL := Lib.hid (BL.out.after hb)
    replace FL := Lib.hid (FL.out.after hb)
    replace HB := Lib.hid (HB.out.trans (hb.mono HB.out.size))
    clear hb hbc mkS r1' r5' r6' r7' BX FX BY FY BH FH BR HR HBD
    obtain ⟨va, vb, mbox, ms1, ms2⟩ := hVM.out
    obtain ⟨pm, km, rfl, _, _⟩ := ms1.shape
    obtain ⟨qm, nm, rfl, _, _⟩ := ms2.shape
    have BM := Lib.hid mbox
    have FM := Lib.hid (IsF.at_ ms1 ms2)
    obtain ⟨m0, m1, m2⟩ := mbox.cells3
    have lM := mbox.lt
    clear mbox ms1 ms2
    obtain ⟨d0, d1, d2⟩ := BL.out.cells3
    have lL := BL.out.lt
    go_wp2_with fail
    refine (Cmp_c _ _ _ lo m FL.out FM.out).mono ?_
    rw [HC3.out]
    rintro e w8 ⟨rfl, hb⟩
    replace HB := Lib.hid (HB.out.trans (hb.mono HB.out.size))
    clear hb d0 d1 d2 m0 m1 m2 lM lL BL FL BM FM hVM
    go_wp2_with fail
    refine (works32_c _).mono ?_
    rintro e w9 ⟨rfl, hb⟩
    have HEND := Lib.hid (HB.out.trans (hb.mono HB.out.size))
    clear hb
    go_wp2_with fail
    go_ret
    exact ⟨rfl, HEND.out⟩
  · go_wp2_with fail
    refine (works32_c _).mono ?_
    rintro e w9 ⟨rfl, hb⟩
    have HEND := Lib.hid (HB.out.trans (hb.mono HB.out.size))
    clear hb
    go_wp2_with fail
    go_ret
    exact ⟨rfl, HEND.out⟩
end Go.Proofs.Ytjjefdkadgkhfaa
