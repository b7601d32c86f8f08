/- The walk of CanaryNexts.
   Arguments that are rollouts, or rows of bools. -/
import Derived.Test.YtjjefdkadgkhfaaGreatK27
import Derived.Test.YtjjefdkadgkhfaaGreatK23
import Derived.Deep.Grids
import Derived.Deep.Strs
set_option linter.unusedVariables false
namespace Go.Proofs.YtjjefdkadgkhfaaGreat
open Go.RowKit Go.Shelf

set_option maxRecDepth 100000 in
set_option maxHeartbeats 8000000 in
theorem canaryNexts_c (w : World) (v u : Value) (R : Ro) (bs : List Bool) (h : IsRA w v R) (k : SlB w u bs) : Calls Tryz.prog 3 #[v, u] w fun e w' => e = .returned (.bool true) ∧ Below w.heap.size w w' := by
  obtain ⟨vh, vw, va, vb, vc, vd, rfl, h1, h2, h3, h4, h5, h6⟩ := h
  obtain ⟨p0, k0, rfl, _, _, _⟩ := h1.shape
  obtain ⟨p1, k1, rfl, _, _, _⟩ := h2.shape
  obtain ⟨p2, k2, rfl, _, _⟩ := h3.shape
  obtain ⟨p3, k3, rfl, _, _⟩ := h4.shape
  obtain ⟨p4, k4, rfl, _, _⟩ := h5.shape
  obtain ⟨p5, k5, rfl, _, _⟩ := h6.shape
  obtain ⟨p, cp, rfl, m1, m2, _⟩ := k.shape
  have hra : IsRA w (.agg #[.slice p0 R.hosts.length k0, .slice p1 R.waves.length k1, .bool R.rate.neg, .slice p2 R.rate.num.length k2, .slice p3 R.rate.den.length k3, .bool R.bound.neg, .slice p4 R.bound.num.length k4, .slice p5 R.bound.den.length k5]) R := ⟨_, _, _, _, _, _, rfl, h1, h2, h3, h4, h5, h6⟩
  obtain ⟨W0, hW, bx, hsz, hb0⟩ := start1 w #[.slice p0 R.hosts.length k0, .slice p1 R.waves.length k1, .bool R.rate.neg, .slice p2 R.rate.num.length k2, .slice p3 R.rate.den.length k3, .bool R.bound.neg, .slice p4 R.bound.num.length k4, .slice p5 R.bound.den.length k5] 28
  obtain ⟨c0, c1, c2, c3, c4, c5, c6, c7⟩ := bx.cells8
  have HRA := Lib.hid (hra.after hb0)
  have HFL := Lib.hid k.cut
  obtain ⟨fl, hfl⟩ : ∃ fl, bs.take 18 = fl := ⟨_, rfl⟩
  rw [hfl] at HFL
  have hfl18 : fl.length ≤ 18 := by rw [← hfl, List.length_take]; omega
  obtain ⟨Q, hQ⟩ : ∃ Q, cutR R = Q := ⟨_, rfl⟩
  have HQ := Lib.hid hQ
  have HQQ : Hid (cutR Q = Q) := by show _ = _; rw [← hQ, cutR_cutR]
  have hw18 : Q.waves.length ≤ 1000000 := by rw [← hQ]; unfold cutR; simp; omega
  have i1 : (0 : Int) ≤ min (bs.length : Int) 18 := by omega
  have i2 : min (bs.length : Int) 18 ≤ (cp : Int) := by omega
  have hn18 : (min (bs.length : Int) 18).toNat = fl.length := by rw [← hfl, List.length_take]; omega
  have HB := Lib.hid hb0
  have BX := Lib.hid bx
  clear hra bx hb0 h1 h2 h3 h4 h5 h6 k hQ hfl
  rw [hn18] at HFL
  have HN18 := Lib.hid hn18
  clear hn18
  go_enter Tryz.func3, Tryz.ntmps3
  go_upto_region 1 with fail
  rw [← hW]
  clear hW
  go_cut [1] (fun t wx => ∃ (a0 a1 a2 a3 a4 a5 : Option Addr) (e0 e1 e2 e3 e4 e5 : Nat), t = .slice p fl.length cp ∧ Hid (Box wx w.heap.size #[.slice a0 Q.hosts.length e0, .slice a1 Q.waves.length e1, .bool Q.rate.neg, .slice a2 Q.rate.num.length e2, .slice a3 Q.rate.den.length e3, .bool Q.bound.neg, .slice a4 Q.bound.num.length e4, .slice a5 Q.bound.den.length e5] 28) ∧ Hid (IsR wx (.agg #[.slice a0 Q.hosts.length e0, .slice a1 Q.waves.length e1, .bool Q.rate.neg, .slice a2 Q.rate.num.length e2, .slice a3 Q.rate.den.length e3, .bool Q.bound.neg, .slice a4 Q.bound.num.length e4, .slice a5 Q.bound.den.length e5]) Q) ∧ Hid (Below w.heap.size w wx))
  case first =>
    go_region_with (first
     | (go_at_call 6; refine (own32_a _ _ R ?_).mono ?_; exact HRA.out.after (below_dr (Below.refl _ W0)); rw [HQ.out]; rintro e w1 ⟨v1, rfl, hv1, hb1⟩; have hk1 := below_of_drew hb1; obtain ⟨a0, a1, a2, a3, a4, a5, e0, e1, e2, e3, e4, e5, rfl, _, _, _, _⟩ := hv1.open; have bx1 := BX.out.after hk1; obtain ⟨r0, r1, r2, r3, r4, r5, r6, r7⟩ := bx1.cells8; have f0 := bx1.frozen 0; have f1 := bx1.frozen 1; have f2 := bx1.frozen 2; have f3 := bx1.frozen 3; have f4 := bx1.frozen 4; have f5 := bx1.frozen 5; have f6 := bx1.frozen 6; have f7 := bx1.frozen 7; have hlt := bx1.lt))
    all_goals
      (go_wp2_with fail
       go_meet
       case rel =>
         have hst := ro_store bx1 hv1
         exact ⟨a0, a1, a2, a3, a4, a5, e0, e1, e2, e3, e4, e5, by rw [HN18.out], Lib.hid hst.1, Lib.hid hst.2, Lib.hid (set8_below (HB.out.trans (hk1.mono HB.out.size)) (Nat.le_refl _))⟩)
  case rest =>
  obtain ⟨a0, a1, a2, a3, a4, a5, e0, e1, e2, e3, e4, e5, rfl, BQ, HR, HBC⟩ := hcut
  clear HB BX HRA HQ c0 c1 c2 c3 c4 c5 c6 c7
  have HB := HBC
  clear HBC
  obtain ⟨c0, c1, c2, c3, c4, c5, c6, c7⟩ := BQ.out.cells8
  have hltq := BQ.out.lt
  go_wp2_with fail
  refine (own32_a _ _ Q HR.out.toA).mono ?_
  rw [HQQ.out]
  rintro e w2 ⟨v2, rfl, hv2, hb2⟩
  obtain ⟨b0, b1, b2, b3, b4, b5, f0, f1, f2, f3, f4, f5, rfl, _, _, _, _⟩ := hv2.open
  go_upto_region 3 with fail
  obtain ⟨W3, hW⟩ : ∃ W3, W3 = w2.alloc (.cells #[.slice b0 Q.hosts.length f0, .slice b1 Q.waves.length f1, .bool Q.rate.neg, .slice b2 Q.rate.num.length f2, .slice b3 Q.rate.den.length f3, .bool Q.bound.neg, .slice b4 Q.bound.num.length f4, .slice b5 Q.bound.den.length f5] 28) := ⟨_, rfl⟩
  have bs : Box W3 w2.heap.size #[.slice b0 Q.hosts.length f0, .slice b1 Q.waves.length f1, .bool Q.rate.neg, .slice b2 Q.rate.num.length f2, .slice b3 Q.rate.den.length f3, .bool Q.bound.neg, .slice b4 Q.bound.num.length f4, .slice b5 Q.bound.den.length f5] 28 := hW ▸ Box.new w2 _ _
  have hb : Below w2.heap.size w2 W3 := hW ▸ held_alloc (Below.refl _ w2)
  have hb3 := hb2.trans (hb.mono hb2.size)
  have HS := Lib.hid (hv2.after hb)
  have BS := Lib.hid bs
  replace HR := Lib.hid (HR.out.after hb3)
  replace BQ := Lib.hid (BQ.out.after hb3)
  replace HB := Lib.hid (HB.out.trans (hb3.mono HB.out.size))
  rw [← hW]
  clear hW bs hb hb2 hb3 hv2 c0 c1 c2 c3 c4 c5 c6 c7 hltq
  obtain ⟨oo, hN⟩ : ∃ o, nextF Q fl = o := ⟨_, rfl⟩
  obtain ⟨d, er⟩ := oo
  have HN := Lib.hid hN
  clear hN
  have HF3 := Lib.hid (HFL.out.after HB.out)
  have mkS : Hid (∀ w', Below W3.heap.size W3 w' → w'.cell? ⟨w.heap.size, 0, none⟩ = some (.slice a0 Q.hosts.length e0) ∧ w'.cell? ⟨w.heap.size, 1, none⟩ = some (.slice a1 Q.waves.length e1) ∧ w'.cell? ⟨w.heap.size, 2, none⟩ = some (.bool Q.rate.neg) ∧ w'.cell? ⟨w.heap.size, 3, none⟩ = some (.slice a2 Q.rate.num.length e2) ∧ w'.cell? ⟨w.heap.size, 4, none⟩ = some (.slice a3 Q.rate.den.length e3) ∧ w'.cell? ⟨w.heap.size, 5, none⟩ = some (.bool Q.bound.neg) ∧ w'.cell? ⟨w.heap.size, 6, none⟩ = some (.slice a4 Q.bound.num.length e4) ∧ w'.cell? ⟨w.heap.size, 7, none⟩ = some (.slice a5 Q.bound.den.length e5)) := fun w' hb => (BQ.out.after hb).cells8
  have hltq := BQ.out.lt
  go_cut [6, 7] (fun x e7 wx => ∃ B : Nat, x = .pointer (some ⟨B, 0, none⟩) ∧ e7 = .int .i64 er ∧ W3.heap.size ≤ B ∧ Hid (VarD wx B d) ∧ Hid (Below W3.heap.size W3 wx))
  case first =>
    go_region_held3 (fun w' => w'.cell? ⟨w.heap.size, 0, none⟩ = some (.slice a0 Q.hosts.length e0) ∧ w'.cell? ⟨w.heap.size, 1, none⟩ = some (.slice a1 Q.waves.length e1) ∧ w'.cell? ⟨w.heap.size, 2, none⟩ = some (.bool Q.rate.neg) ∧ w'.cell? ⟨w.heap.size, 3, none⟩ = some (.slice a2 Q.rate.num.length e2) ∧ w'.cell? ⟨w.heap.size, 4, none⟩ = some (.slice a3 Q.rate.den.length e3) ∧ w'.cell? ⟨w.heap.size, 5, none⟩ = some (.bool Q.bound.neg) ∧ w'.cell? ⟨w.heap.size, 6, none⟩ = some (.slice a4 Q.bound.num.length e4) ∧ w'.cell? ⟨w.heap.size, 7, none⟩ = some (.slice a5 Q.bound.den.length e5))
      (first | (refine mkS.out _ ?_; (repeat (first | with_reducible exact hk2 | with_reducible exact hk1 | with_reducible exact Below.refl _ _ | with_reducible refine below_dr ?_ | with_reducible refine held_alloc ?_ | ((with_reducible refine held_set ?_ ?_); rotate_left; with_reducible exact hle))); done))
      (first
       | (go_at_call 8; refine (clone_b _ _ fl ?_ (by omega)).mono ?_; exact SlB.after (HF3.out.after (below_dr (Below.refl _ W3))) (held_alloc (Below.refl _ _)); rintro e wa ⟨v, rfl, hv, _, hb1⟩; obtain ⟨pa, ca, rfl, _, _, _⟩ := hv.shape; have CZ1 : Box wa W3.heap.size #[.int .u8 0, .slice none 0 0] 33 := (after_new (below_of_drew hb1)).2; have hk1 : Below W3.heap.size W3 wa := (after_new (below_of_drew hb1)).1)
       | (go_at_call 8; refine (clone_b _ _ fl ?_ (by omega)).mono ?_; exact HF3.out.after (below_dr (Below.refl _ W3)); rintro e wa ⟨v, rfl, hv, _, hb1⟩; obtain ⟨pa, ca, rfl, _, _, _⟩ := hv.shape; have hk1 : Below W3.heap.size W3 wa := below_of_drew hb1)
       | (go_at_call 7; refine (Next_c _ _ _ Q fl ?_ ?_).mono ?_; exact HR.out.after hk1; exact hv; rw [HN.out]; rintro e wb ⟨v2, rfl, hv2, hb2⟩; have hv2 : SlT wb v2 d.hosts := hv2; obtain ⟨p6, c6, rfl⟩ := hv2.shape; have CZ : Box wb W3.heap.size #[.int .u8 0, .slice none 0 0] 33 := CZ1.after hb2; have hk2 := hk1.trans (hb2.mono hk1.size); have hle : W3.heap.size ≤ W3.heap.size := Nat.le_refl _; have z0 : wb.cell? ⟨W3.heap.size, 0, none⟩ = some (.int .u8 0) := CZ.cell 0; have z1 : wb.cell? ⟨W3.heap.size, 1, none⟩ = some (.slice none 0 0) := CZ.cell 1; have g0 := CZ.frozen 0; have g1 := CZ.frozen 1; have zlt := CZ.lt)
       | (go_at_call 7; refine (Next_c _ _ _ Q fl ?_ ?_).mono ?_; exact (HR.out.after hk1).after (held_alloc (Below.refl _ _)); exact SlB.after hv (held_alloc (Below.refl _ _)); rw [HN.out]; rintro e wb ⟨v2, rfl, hv2, hb2⟩; have hv2 : SlT wb v2 d.hosts := hv2; obtain ⟨p6, c6, rfl⟩ := hv2.shape; have CZ : Box wb wa.heap.size #[.int .u8 0, .slice none 0 0] 33 := (after_new hb2).2; have hk2 := hk1.trans ((after_new hb2).1.mono hk1.size); have hle := hk1.size; have z0 : wb.cell? ⟨wa.heap.size, 0, none⟩ = some (.int .u8 0) := CZ.cell 0; have z1 : wb.cell? ⟨wa.heap.size, 1, none⟩ = some (.slice none 0 0) := CZ.cell 1; have g0 := CZ.frozen 0; have g1 := CZ.frozen 1; have zlt := CZ.lt)
       | (go_at_call 7; refine (Next_c _ _ _ Q fl ?_ ?_).mono ?_; exact HR.out.after hk1; exact hv; rw [HN.out]; rintro e wb ⟨v2, rfl, hv2, hb2⟩; have hv2 : SlT wb v2 d.hosts := hv2; obtain ⟨p6, c6, rfl⟩ := hv2.shape; have hk2 := hk1.trans (hb2.mono hk1.size))
       | (fail))
    all_goals
      (go_wp2_with fail
       go_meet
       case rel =>
         first
         | (refine ⟨_, rfl, rfl, ?_, ?_, ?_⟩
            rotate_left
            · (first | (with_reducible exact Lib.hid (VarD.put CZ hv2)) | (with_reducible exact Lib.hid (VarD.makeT hv2)))
            · (first | (with_reducible exact Lib.hid (below_put2 hk2 hle)) | (with_reducible exact Lib.hid (held_alloc hk2)))
            · (first | (with_reducible exact Nat.le_refl _) | (with_reducible exact hle) | (with_reducible exact hk2.size) | omega)))
  case rest =>
  obtain ⟨bd, rfl, rfl, hbd, hvd, hbc⟩ := hcut
  have HVD := hvd
  have hb := hbc.out
  clear hbc hvd mkS HF3
  replace HR := Lib.hid (HR.out.after hb)
  replace BQ := Lib.hid (BQ.out.after hb)
  replace HS := Lib.hid (HS.out.after hb)
  replace BS := Lib.hid (BS.out.after hb)
  replace HB := Lib.hid (HB.out.trans (hb.mono HB.out.size))
  clear hb
  obtain ⟨c0, c1, c2, c3, c4, c5, c6, c7⟩ := BS.out.cells8
  have hlts := BS.out.lt
  go_wp2_with fail
  refine (rNext_c _ _ _ Q fl HS.out (HFL.out.after HB.out) hw18).mono ?_
  rw [HN.out]
  rintro e w4 ⟨v4, rfl, hv4, hb4⟩
  have hv4 : SlT w4 v4 d.hosts := hv4
  obtain ⟨pd, cd, rfl⟩ := hv4.shape
  go_upto_region 5 with fail
  obtain ⟨W5, hW⟩ : ∃ W5, W5 = w4.alloc (.cells #[.int .u8 (d.kind : Int), .slice pd d.hosts.length cd] 33) := ⟨_, rfl⟩
  have bd2 : Box W5 w4.heap.size #[.int .u8 (d.kind : Int), .slice pd d.hosts.length cd] 33 := hW ▸ Box.new w4 _ _
  have hb : Below w4.heap.size w4 W5 := hW ▸ held_alloc (Below.refl _ w4)
  have hb5 := hb4.trans (hb.mono hb4.size)
  have D2 : Hid (IsD W5 (.agg #[.int .u8 (d.kind : Int), .slice pd d.hosts.length cd]) d) := ⟨_, rfl, (hv4.after hb).1⟩
  have B2 := Lib.hid bd2
  rw [← hW]
  clear hW bd2 hb hb4 hv4 c0 c1 c2 c3 c4 c5 c6 c7 hlts
  obtain ⟨pe, ce, be, he⟩ := HVD.out.after hb5
  have D1 : Hid (IsD W5 (.agg #[.int .u8 (d.kind : Int), .slice pe d.hosts.length ce]) d) := ⟨_, rfl, he⟩
  have B1 := Lib.hid be
  clear be he HVD
  replace HR := Lib.hid (HR.out.after hb5)
  replace BQ := Lib.hid (BQ.out.after hb5)
  replace HS := Lib.hid (HS.out.after hb5)
  replace BS := Lib.hid (BS.out.after hb5)
  replace HB := Lib.hid (HB.out.trans (hb5.mono HB.out.size))
  clear hb5
  have mkS : Hid (∀ w', Below W5.heap.size W5 w' → w'.cell? ⟨bd, 0, none⟩ = some (.int .u8 (d.kind : Int)) ∧ w'.cell? ⟨bd, 1, none⟩ = some (.slice pe d.hosts.length ce) ∧ w'.cell? ⟨w4.heap.size, 0, none⟩ = some (.int .u8 (d.kind : Int)) ∧ w'.cell? ⟨w4.heap.size, 1, none⟩ = some (.slice pd d.hosts.length cd) ∧ w'.cell? ⟨w.heap.size, 0, none⟩ = some (.slice a0 Q.hosts.length e0) ∧ w'.cell? ⟨w.heap.size, 1, none⟩ = some (.slice a1 Q.waves.length e1) ∧ w'.cell? ⟨w.heap.size, 2, none⟩ = some (.bool Q.rate.neg) ∧ w'.cell? ⟨w.heap.size, 3, none⟩ = some (.slice a2 Q.rate.num.length e2) ∧ w'.cell? ⟨w.heap.size, 4, none⟩ = some (.slice a3 Q.rate.den.length e3) ∧ w'.cell? ⟨w.heap.size, 5, none⟩ = some (.bool Q.bound.neg) ∧ w'.cell? ⟨w.heap.size, 6, none⟩ = some (.slice a4 Q.bound.num.length e4) ∧ w'.cell? ⟨w.heap.size, 7, none⟩ = some (.slice a5 Q.bound.den.length e5) ∧ w'.cell? ⟨w2.heap.size, 0, none⟩ = some (.slice b0 Q.hosts.length f0) ∧ w'.cell? ⟨w2.heap.size, 1, none⟩ = some (.slice b1 Q.waves.length f1) ∧ w'.cell? ⟨w2.heap.size, 2, none⟩ = some (.bool Q.rate.neg) ∧ w'.cell? ⟨w2.heap.size, 3, none⟩ = some (.slice b2 Q.rate.num.length f2) ∧ w'.cell? ⟨w2.heap.size, 4, none⟩ = some (.slice b3 Q.rate.den.length f3) ∧ w'.cell? ⟨w2.heap.size, 5, none⟩ = some (.bool Q.bound.neg) ∧ w'.cell? ⟨w2.heap.size, 6, none⟩ = some (.slice b4 Q.bound.num.length f4) ∧ w'.cell? ⟨w2.heap.size, 7, none⟩ = some (.slice b5 Q.bound.den.length f5)) := fun w' hb => by
    obtain ⟨x0, x1, x2, x3, x4, x5, x6, x7⟩ := (BQ.out.after hb).cells8
    obtain ⟨y0, y1, y2, y3, y4, y5, y6, y7⟩ := (BS.out.after hb).cells8
    obtain ⟨u0, u1⟩ := (B1.out.after hb).cells2'
    obtain ⟨v0, v1⟩ := (B2.out.after hb).cells2'
    exact ⟨u0, u1, v0, v1, x0, x1, x2, x3, x4, x5, x6, x7, y0, y1, y2, y3, y4, y5, y6, y7⟩
  have l1 := BQ.out.lt
  have l2 := BS.out.lt
  have l3 := B1.out.lt
  have l4 := B2.out.lt
  go_region_held3 (fun w' => w'.cell? ⟨bd, 0, none⟩ = some (.int .u8 (d.kind : Int)) ∧ w'.cell? ⟨bd, 1, none⟩ = some (.slice pe d.hosts.length ce) ∧ w'.cell? ⟨w4.heap.size, 0, none⟩ = some (.int .u8 (d.kind : Int)) ∧ w'.cell? ⟨w4.heap.size, 1, none⟩ = some (.slice pd d.hosts.length cd) ∧ w'.cell? ⟨w.heap.size, 0, none⟩ = some (.slice a0 Q.hosts.length e0) ∧ w'.cell? ⟨w.heap.size, 1, none⟩ = some (.slice a1 Q.waves.length e1) ∧ w'.cell? ⟨w.heap.size, 2, none⟩ = some (.bool Q.rate.neg) ∧ w'.cell? ⟨w.heap.size, 3, none⟩ = some (.slice a2 Q.rate.num.length e2) ∧ w'.cell? ⟨w.heap.size, 4, none⟩ = some (.slice a3 Q.rate.den.length e3) ∧ w'.cell? ⟨w.heap.size, 5, none⟩ = some (.bool Q.bound.neg) ∧ w'.cell? ⟨w.heap.size, 6, none⟩ = some (.slice a4 Q.bound.num.length e4) ∧ w'.cell? ⟨w.heap.size, 7, none⟩ = some (.slice a5 Q.bound.den.length e5) ∧ w'.cell? ⟨w2.heap.size, 0, none⟩ = some (.slice b0 Q.hosts.length f0) ∧ w'.cell? ⟨w2.heap.size, 1, none⟩ = some (.slice b1 Q.waves.length f1) ∧ w'.cell? ⟨w2.heap.size, 2, none⟩ = some (.bool Q.rate.neg) ∧ w'.cell? ⟨w2.heap.size, 3, none⟩ = some (.slice b2 Q.rate.num.length f2) ∧ w'.cell? ⟨w2.heap.size, 4, none⟩ = some (.slice b3 Q.rate.den.length f3) ∧ w'.cell? ⟨w2.heap.size, 5, none⟩ = some (.bool Q.bound.neg) ∧ w'.cell? ⟨w2.heap.size, 6, none⟩ = some (.slice b4 Q.bound.num.length f4) ∧ w'.cell? ⟨w2.heap.size, 7, none⟩ = some (.slice b5 Q.bound.den.length f5))
    (first | (refine mkS.out _ ?_; (repeat (first | with_reducible exact hk3 | with_reducible exact hk2 | with_reducible exact hk1 | with_reducible exact Below.refl _ _ | with_reducible refine below_dr ?_)); done))
    (first
     | (go_at_call 10; refine (same32_c _ _ _ d d ?_ ?_).mono ?_; exact D1.out.after (below_dr (Below.refl _ W5)); exact D2.out.after (below_dr (Below.refl _ W5)); intro e wa hr; obtain ⟨rfl, hb1⟩ := hr.yes rfl; have hk1 : Below W5.heap.size W5 wa := below_of_drew hb1)
     | (go_at_call 11; refine (cValid_c _ _ Q ?_).mono ?_; exact HR.out.after hk1; rintro e wb ⟨r1, rfl, hr1, hb2⟩; have hk2 := hk1.trans (hb2.mono hk1.size))
     | (go_at_call 12; refine (rcValid_c _ _ Q ?_ hw18).mono ?_; exact HS.out.after hk2; rintro e wd ⟨r2, rfl, hr2, hb3⟩; obtain rfl : r1 = r2 := Bool.eq_iff_iff.2 (hr1.trans hr2.symm); have hk3 := hk2.trans (hb3.mono hk2.size)))
  clear mkS D1 D2 B1 B2
  replace HR := Lib.hid (HR.out.after hk3)
  replace BQ := Lib.hid (BQ.out.after hk3)
  replace HS := Lib.hid (HS.out.after hk3)
  replace BS := Lib.hid (BS.out.after hk3)
  replace HB := Lib.hid (HB.out.trans (hk3.mono HB.out.size))
  clear hk1 hk2 hk3 hb1 hb2 hb3 hr1 hr2 HN l1 l2 l3 l4
  have l1 := BQ.out.lt
  have l2 := BS.out.lt
  clear l1 l2
  obtain ⟨x0, x1, x2, x3, x4, x5, x6, x7⟩ := BQ.out.cells8
  obtain ⟨y0, y1, y2, y3, y4, y5, y6, y7⟩ := BS.out.cells8
  go_wp2_with fail
  refine (equal_i _ _ _ _ _ HR.out.parts.1 HS.out.parts.1).mono ?_
  intro e n1 hr
  obtain ⟨rfl, hw⟩ := hr.yes rfl
  have hb := below_dn hw
  replace HR := Lib.hid (HR.out.after hb)
  replace BQ := Lib.hid (BQ.out.after hb)
  replace HS := Lib.hid (HS.out.after hb)
  replace BS := Lib.hid (BS.out.after hb)
  replace HB := Lib.hid (HB.out.trans (hb.mono HB.out.size))
  clear hr hw hb
  clear x0 x1 x2 x3 x4 x5 x6 x7 y0 y1 y2 y3 y4 y5 y6 y7
  obtain ⟨x0, x1, x2, x3, x4, x5, x6, x7⟩ := BQ.out.cells8
  obtain ⟨y0, y1, y2, y3, y4, y5, y6, y7⟩ := BS.out.cells8
  go_wp2_with fail
  refine (equal_i _ _ _ _ _ HR.out.parts.2.1 HS.out.parts.2.1).mono ?_
  intro e n2 hr
  obtain ⟨rfl, hw⟩ := hr.yes rfl
  have hb := below_dn hw
  replace HR := Lib.hid (HR.out.after hb)
  replace BQ := Lib.hid (BQ.out.after hb)
  replace HS := Lib.hid (HS.out.after hb)
  replace BS := Lib.hid (BS.out.after hb)
  replace HB := Lib.hid (HB.out.trans (hb.mono HB.out.size))
  clear hr hw hb
  clear x0 x1 x2 x3 x4 x5 x6 x7 y0 y1 y2 y3 y4 y5 y6 y7
  obtain ⟨x0, x1, x2, x3, x4, x5, x6, x7⟩ := BQ.out.cells8
  obtain ⟨y0, y1, y2, y3, y4, y5, y6, y7⟩ := BS.out.cells8
  go_wp2_with fail
  refine (Same_c _ _ _ _ _ HR.out.parts.2.2.1 HS.out.parts.2.2.1).mono ?_
  intro e n3 hr
  obtain ⟨rfl, hw⟩ := hr.yes rfl
  have hb := hw
  replace HR := Lib.hid (HR.out.after hb)
  replace BQ := Lib.hid (BQ.out.after hb)
  replace HS := Lib.hid (HS.out.after hb)
  replace BS := Lib.hid (BS.out.after hb)
  replace HB := Lib.hid (HB.out.trans (hb.mono HB.out.size))
  clear hr hw hb
  clear x0 x1 x2 x3 x4 x5 x6 x7 y0 y1 y2 y3 y4 y5 y6 y7
  obtain ⟨x0, x1, x2, x3, x4, x5, x6, x7⟩ := BQ.out.cells8
  obtain ⟨y0, y1, y2, y3, y4, y5, y6, y7⟩ := BS.out.cells8
  go_wp2_with fail
  refine (Same_c _ _ _ _ _ HR.out.parts.2.2.2 HS.out.parts.2.2.2).mono ?_
  intro e n4 hr
  obtain ⟨rfl, hw⟩ := hr.yes rfl
  have hb := hw
  replace HR := Lib.hid (HR.out.after hb)
  replace BQ := Lib.hid (BQ.out.after hb)
  replace HS := Lib.hid (HS.out.after hb)
  replace BS := Lib.hid (BS.out.after hb)
  replace HB := Lib.hid (HB.out.trans (hb.mono HB.out.size))
  clear hr hw hb
  clear x0 x1 x2 x3 x4 x5 x6 x7 y0 y1 y2 y3 y4 y5 y6 y7
  go_wp2_with fail
  refine (works32_c _).mono ?_
  rintro e w9 ⟨rfl, hb⟩
  have HEND := Lib.hid (HB.out.trans (hb.mono HB.out.size))
  clear hb
  go_wp2_with fail
  go_ret
  exact ⟨rfl, HEND.out⟩
end Go.Proofs.YtjjefdkadgkhfaaGreat

namespace Go.Proofs.YtjjefdkadgkhfaaGreat
open Go.RowKit Go.ChangeShapes Go.WideShapes

theorem array8 {α : Type} {cs : Array α} (h : cs.size = 8) : ∃ c0 c1 c2 c3 c4 c5 c6 c7, cs = #[c0, c1, c2, c3, c4, c5, c6, c7] := by
  obtain ⟨l⟩ := cs
  match l, h with
  | [c0, c1, c2, c3, c4, c5, c6, c7], _ => exact ⟨c0, c1, c2, c3, c4, c5, c6, c7, rfl⟩
theorem cells_int : Tryz.prog.cellsOf 3 = 1 := by kernel_rfl
theorem cells_bool : Tryz.prog.cellsOf 4 = 1 := by kernel_rfl
theorem cells_ints : Tryz.prog.cellsOf 22 = 1 := by kernel_rfl
theorem cells_nat : Tryz.prog.cellsOf 24 = 1 := by kernel_rfl
theorem cells_rollout : Tryz.prog.cellsOf 28 = 8 := by kernel_rfl
theorem add_off {b off : Nat} (j : Nat) : (⟨b, off, none⟩ : Addr).add j = ⟨b, off + j, none⟩ := by unfold Addr.add; split <;> simp_all
theorem i64_in {n : Int} (h : (Lit.int .i64 n).wf = true) : In64 n := by
  have h1 : IntKind.i64.min = -9223372036854775808 := rfl
  have h2 : IntKind.i64.max = 9223372036854775807 := rfl
  simp [Lit.wf, h1, h2] at h
  unfold In64
  omega
set_option maxRecDepth 100000 in
theorem slI_of_arg {H : Type} {enc : TypeId × Value → H} {W : World} {n : Nat} {v : Value} {y : DataW H × List MemPlace} (h : DataW.trod enc Tryz.prog W 0 (fun _ => true) true n 22 [v] = some y) : ∃ l, SlI W v l := by
  rcases open_ints Tryz.underlying22 Tryz.underlying3 cells_int h with ⟨hc, _⟩ | ⟨a, len, cap, zs, hc, _, hl, hm, hz, _, hcell, hw⟩
  · obtain rfl : v = .slice none 0 0 := by simpa using hc
    exact ⟨[], SlI.nil W⟩
  · obtain rfl : v = .slice (some a) len cap := by simpa using hc
    simp at hz
    have hlen : ((zs.take len).map (Value.int .i64)).length = len := by simp; omega
    refine ⟨zs.take len, fun z hz' => i64_in (hw z (List.mem_of_mem_take hz')), some a, cap, by rw [hlen], by rw [hlen]; exact hl, by unfold maxLen at hm; exact hm, (fun h => by cases h), fun h0 => ?_⟩
    rw [hlen] at h0
    have hs : a.spot = none := by
      have := hcell 0 (by omega)
      simpa [Addr.add] using World.cell?_spot this
    obtain ⟨b, off, spot⟩ := a
    simp only at hs
    subst hs
    refine ⟨b, off, rfl, ?_, fun i c hi => ?_⟩
    · have := hcell 0 (by omega)
      rw [add_off] at this
      exact World.block_lt_of_cell? _ _ this
    · have hil : i < len := by
        rcases Nat.lt_or_ge i len with h | h
        · exact h
        · rw [List.getElem?_eq_none (by rw [hlen]; exact h)] at hi; cases hi
      have := hcell i (by omega)
      rw [add_off] at this
      rw [this, ← hi, List.getElem?_map, List.getElem?_take, if_pos hil]
      simp [List.getD, show i < zs.length by omega]
set_option maxRecDepth 100000 in
theorem open_bools_arg {H : Type} {enc : TypeId × Value → H} {W : World} {base : Nat} {v : Value} {d : DataW H} {p : List MemPlace} (hv : Value.okWide Tryz.prog W .any base 29 v) (h : DataW.Trod enc Tryz.prog W 0 (fun _ => true) true 29 v d p) : ∃ l, SlB W v l := by
  obtain ⟨a0, len0, cap0, rfl⟩ := okWide_slice Tryz.underlying29 hv
  obtain ⟨fuel, hf⟩ := h
  have hf : DataW.trod enc Tryz.prog W 0 (fun _ => true) true fuel 29 [.slice a0 len0 cap0] = some (d, p) := by simpa [Value.cells] using hf
  rcases Deep.open_bools Tryz.underlying29 Tryz.underlying4 cells_bool hf with ⟨hc, _⟩ | ⟨a, len, cap, B, hc, _, hl, hm, _, hcell⟩
  · obtain ⟨rfl, rfl, rfl⟩ : a0 = none ∧ len0 = 0 ∧ cap0 = 0 := by simpa using hc
    exact ⟨[], SlB.nil W⟩
  · obtain ⟨rfl, rfl, rfl⟩ : a0 = some a ∧ len0 = len ∧ cap0 = cap := by simpa using hc
    have hlen : (((List.range len0).map B).map Value.bool).length = len0 := by simp
    refine ⟨(List.range len0).map B, some a, cap0, by rw [hlen], by rw [hlen]; exact hl, by unfold maxLen at hm; exact hm, (fun h => by cases h), fun h0 => ?_⟩
    rw [hlen] at h0
    have hs : a.spot = none := by
      have := hcell 0 (by omega)
      simpa [Addr.add] using World.cell?_spot this
    obtain ⟨b, off, spot⟩ := a
    simp only at hs
    subst hs
    refine ⟨b, off, rfl, ?_, fun i c hi => ?_⟩
    · have := hcell 0 (by omega)
      rw [add_off] at this
      exact World.block_lt_of_cell? _ _ this
    · have hil : i < len0 := by
        rcases Nat.lt_or_ge i len0 with h | h
        · exact h
        · rw [List.getElem?_eq_none (by rw [hlen]; exact h)] at hi; cases hi
      have := hcell i (by omega)
      rw [add_off] at this
      rw [this, ← hi]
      simp [hil]
set_option maxRecDepth 100000 in
theorem ratio_of_cells {H : Type} {enc : TypeId × Value → H} {W : World} {n : Nat} {v0 v1 v2 : Value} {y : DataW H × List MemPlace} (h : DataW.trod enc Tryz.prog W 0 (fun _ => true) true n 26 [v0, v1, v2] = some y) : ∃ x, IsFA W (.agg #[v0, v1, v2]) x := by
  obtain ⟨y0, y1, y2, m, _, _, h0, h1, h2⟩ := Deep.trod_struct3 Tryz.underlying26 h
  simp [cells_bool, cells_nat] at h0 h1 h2
  obtain ⟨b, hb, _⟩ := DataW.trod_bool Tryz.underlying4 h0
  obtain rfl : v0 = .bool b := by simpa using hb
  obtain ⟨l1, hl1⟩ := slA_of_arg h1
  obtain ⟨l2, hl2⟩ := slA_of_arg h2
  exact ⟨⟨b, l1, l2⟩, v1, v2, rfl, hl1, hl2⟩
theorem agg3_inj {x0 x1 x2 y0 y1 y2 : Value} (h : Value.agg #[x0, x1, x2] = .agg #[y0, y1, y2]) : x0 = y0 ∧ x1 = y1 ∧ x2 = y2 := by
  have h := congrArg Array.toList (Value.agg.inj h)
  simpa using h
set_option maxRecDepth 100000 in
/-- An argument that is a rollout. -/
theorem open_rollout {H : Type} {enc : TypeId × Value → H} {W : World} {base : Nat} {v : Value} {d : DataW H} {p : List MemPlace} (hv : Value.okWide Tryz.prog W .any base 28 v) (h : DataW.Trod enc Tryz.prog W 0 (fun _ => true) true 28 v d p) : ∃ R, IsRA W v R := by
  obtain ⟨cs, rfl, hsz⟩ := okWide_struct Tryz.underlying28 hv
  obtain ⟨c0, c1, c2, c3, c4, c5, c6, c7, rfl⟩ := array8 (hsz.trans cells_rollout)
  obtain ⟨fuel, hf⟩ := h
  obtain ⟨y0, y1, y2, y3, n, _, _, h0, h1, h2, h3⟩ := Joins.trod_struct4 Tryz.underlying28 hf
  simp [Value.cells, cells_ints, cells_ratio] at h0 h1 h2 h3
  obtain ⟨l0, hl0⟩ := slI_of_arg h0
  obtain ⟨l1, hl1⟩ := slI_of_arg h1
  obtain ⟨x, xa, xb, ex, hx1, hx2⟩ := ratio_of_cells h2
  obtain ⟨y, ya, yb, ey, hy1, hy2⟩ := ratio_of_cells h3
  obtain ⟨rfl, rfl, rfl⟩ := agg3_inj ex
  obtain ⟨rfl, rfl, rfl⟩ := agg3_inj ey
  exact ⟨⟨l0, l1, x, y⟩, _, _, _, _, _, _, rfl, hl0, hl1, hx1, hx2, hy1, hy2⟩
end Go.Proofs.YtjjefdkadgkhfaaGreat
