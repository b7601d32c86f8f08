/- The walk of CanaryAdds. -/
import Derived.Test.YtjjefdkadgkhfaaQG2
import Derived.Test.YtjjefdkadgkhfaaK25
import Derived.Test.YtjjefdkadgkhfaaQC18
import Derived.Test.YtjjefdkadgkhfaaQE4
set_option linter.unusedVariables false
namespace Go.Proofs.Ytjjefdkadgkhfaa
open Go.RowKit

theorem dull_f1 {w : World} {s : Nat} {x : F} (h : VarF w s x) : Dull (fun g => g = s) w := by
  obtain ⟨va, vb, hb, k1, k2⟩ := h
  obtain ⟨p, cp, rfl, _, _⟩ := k1.shape
  obtain ⟨q, cq, rfl, _, _⟩ := k2.shape
  refine ⟨?_, ?_⟩
  · rintro b rfl
    exact hb.noTag (by decide) _ rfl
  · rintro b o z rfl h
    rw [hb.cell] at h
    rcases o with _ | _ | _ | o <;> simp at h
theorem VarF.store3 {w : World} {b : Nat} {x y : F} {va vb : Value} (h : VarF w b x) (k : IsF w (.agg #[.bool y.neg, va, vb]) y) :
    VarF (((w.setCell ⟨b, 0, none⟩ (.bool y.neg)).setCell ⟨b, 1, none⟩ va).setCell ⟨b, 2, none⟩ vb) b y ∧ w.grownBy (((w.setCell ⟨b, 0, none⟩ (.bool y.neg)).setCell ⟨b, 1, none⟩ va).setCell ⟨b, 2, none⟩ vb) (some b) := by
  obtain ⟨v1, v2, hb, s1, s2⟩ := h
  obtain ⟨p, c, rfl, _, _⟩ := s1.shape
  obtain ⟨q, d, rfl, _, _⟩ := s2.shape
  have := k.set3 hb (fun _ h => by cases h) (fun _ h => by cases h) (fun _ h => by cases h) (.bool y.neg) va vb
  exact ⟨⟨va, vb, end_box hb, this.parts.2.1, this.parts.2.2⟩, grown_set3 _ _ _ _ _⟩
theorem Fx.over {A B : Nat → Prop} {w W W' : World} (h : Fx A w W) (k : Fx B W W') (hB : ∀ g, B g → w.heap.size ≤ g) : Fx A w W' :=
  ⟨k.os.trans h.os, k.tape.trans h.tape, k.output.trans h.output, Nat.le_trans h.size k.size, fun b hb hs => (k.block b (Nat.lt_of_lt_of_le hb h.size) (fun e => by have := hB b e; omega)).trans (h.block b hb hs)⟩
theorem SlD.last {w : World} {a : Option Addr} {n c : Nat} {ds : List Dec} (h : SlD w (.slice a n c) ds) (hne : ds ≠ []) : ∃ b, a = some ⟨b, 0, none⟩ ∧ b < w.heap.size ∧ w.cell? ⟨b, (ds.length - 1) * 2, none⟩ = some (.int .u8 ((ds.getLast hne).kind : Int)) := by
  obtain ⟨a', c', h1, _, _, _, h5⟩ := h
  have hp : 0 < ds.length := List.length_pos_iff.2 hne
  obtain ⟨b, e, hlt, hc⟩ := h5 hp
  injection h1 with e1
  obtain ⟨u, h6, _⟩ := hc (ds.length - 1) (ds.getLast hne) (by rw [List.getLast_eq_getElem, List.getElem?_eq_getElem])
  exact ⟨b, e1.trans e, hlt, h6⟩
set_option pp.deepTerms true in
set_option pp.maxSteps 1000000 in
set_option maxRecDepth 100000 in
set_option maxHeartbeats 16000000 in
theorem canaryAdds_c (w : World) (v : Value) (h : Nat) (ws : List Nat) (r0 r1 b0 b1 a0 a1 : Nat) (k : IsS w v h ws r0 r1 b0 b1) (ha0 : a0 < 256) (ha1 : a1 < 256) : Calls Try.prog 4 #[v, .agg #[.int .u8 (a0 : Int), .int .u8 (a1 : Int)]] w fun e w' => e = .returned (.bool true) ∧ Below w.heap.size w w' := by
  have hk := k
  obtain ⟨_, vw, rfl, hsw⟩ := k
  obtain ⟨pw, cw, rfl, _, _, _, _⟩ := hsw
  have hlm : (List.map (fun z => Value.int IntKind.u8 ((z : Nat) : Int)) ws).length = ws.length := by simp
  rw [hlm] at hk ⊢
  obtain ⟨R, hR⟩ : ∃ R, madeR h ws r0 r1 b0 b1 6 = R := ⟨_, rfl⟩
  have hv : ValidR R := hR ▸ madeR_valid h ws r0 r1 b0 b1 (by omega) (by omega)
  have hn6 : R.hosts.length ≤ 6 := by rw [← hR]; show (hostsN _).length ≤ 6; rw [hostsN_len]; have := Nat.mod_lt h (show 0 < 6 by omega); omega
  obtain ⟨α, β, hp, hok, hab, hb1000, _⟩ := part_ok a0 a1
  have hβ : 0 < β := hok.pos
  obtain ⟨W0, hW, bS, bA, hb0⟩ : ∃ W0, W0 = (w.alloc (.cells #[.int .u8 (h : Int), .slice pw ws.length cw, .int .u8 (r0 : Int), .int .u8 (r1 : Int), .int .u8 (b0 : Int), .int .u8 (b1 : Int)] 25)).alloc (.cells #[.int .u8 (a0 : Int), .int .u8 (a1 : Int)] 23) ∧ Box W0 w.heap.size #[.int .u8 (h : Int), .slice pw ws.length cw, .int .u8 (r0 : Int), .int .u8 (r1 : Int), .int .u8 (b0 : Int), .int .u8 (b1 : Int)] 25 ∧ Box W0 (w.heap.size + 1) #[.int .u8 (a0 : Int), .int .u8 (a1 : Int)] 23 ∧ Below w.heap.size w W0 := by
    refine ⟨_, rfl, (Box.new w _ _).alloc _, ?_, held_alloc (held_alloc (Below.refl _ w))⟩
    have := Box.new (w.alloc (.cells #[.int .u8 (h : Int), .slice pw ws.length cw, .int .u8 (r0 : Int), .int .u8 (r1 : Int), .int .u8 (b0 : Int), .int .u8 (b1 : Int)] 25)) #[.int .u8 (a0 : Int), .int .u8 (a1 : Int)] 23
    simpa using this
  have s0 : W0.cell? ⟨w.heap.size, 0, none⟩ = some (.int .u8 (h : Int)) := bS.cell 0
  have s1 : W0.cell? ⟨w.heap.size, 1, none⟩ = some (.slice pw ws.length cw) := bS.cell 1
  have s2 : W0.cell? ⟨w.heap.size, 2, none⟩ = some (.int .u8 (r0 : Int)) := bS.cell 2
  have s3 : W0.cell? ⟨w.heap.size, 3, none⟩ = some (.int .u8 (r1 : Int)) := bS.cell 3
  have s4 : W0.cell? ⟨w.heap.size, 4, none⟩ = some (.int .u8 (b0 : Int)) := bS.cell 4
  have s5 : W0.cell? ⟨w.heap.size, 5, none⟩ = some (.int .u8 (b1 : Int)) := bS.cell 5
  have HS := Lib.hid (hk.after hb0)
  have HR := Lib.hid hR
  have HV := Lib.hid hv
  have HP : Hid ((ofF ((a0 % (a1 % 30 + 2) : Nat) : Int) ((a1 % 30 + 1 : Nat) : Int)).1 = fr false α β) := hp
  have HOK := Lib.hid hok
  have BA := Lib.hid bA
  have HB := Lib.hid hb0
  clear hk hlm hR hv hp hok bS bA hb0
  go_enter Try.func4, Try.ntmps4
  go_upto_region 1 with fail
  rw [← hW]
  clear hW
  go_wp2_with fail
  refine (made_c _ _ h ws r0 r1 b0 b1 6 HS.out (by omega) (by omega)).mono ?_
  rw [HR.out]
  rintro e w1 ⟨v1, rfl, hv1, hb1⟩
  have hop := hv1.open
  obtain ⟨p0, p1, p2, p3, p4, p5, k0, k1, k2, k3, k4, k5, rfl, _, _, _, _⟩ := hop
  go_upto_region 2 with fail
  obtain ⟨W1, hW⟩ : ∃ W1, W1 = w1.alloc (.cells #[.slice p0 R.hosts.length k0, .slice p1 R.waves.length k1, .bool R.rate.neg, .slice p2 R.rate.num.length k2, .slice p3 R.rate.den.length k3, .bool R.bound.neg, .slice p4 R.bound.num.length k4, .slice p5 R.bound.den.length k5] 32) := ⟨_, rfl⟩
  have hb : Below w1.heap.size w1 W1 := hW ▸ held_alloc (Below.refl _ w1)
  have BR := Lib.hid (show Box W1 w1.heap.size #[.slice p0 R.hosts.length k0, .slice p1 R.waves.length k1, .bool R.rate.neg, .slice p2 R.rate.num.length k2, .slice p3 R.rate.den.length k3, .bool R.bound.neg, .slice p4 R.bound.num.length k4, .slice p5 R.bound.den.length k5] 32 from hW ▸ Box.new w1 _ _)
  have HRO := Lib.hid (hv1.after hb)
  have hbb := hb1.trans (hb.mono hb1.size)
  replace HB := Lib.hid (HB.out.trans (hbb.mono HB.out.size))
  replace BA := Lib.hid (BA.out.after hbb)
  have x0 : W1.cell? ⟨w.heap.size + 1, 0, none⟩ = some (.int .u8 (a0 : Int)) := BA.out.cell 0
  have x1 : W1.cell? ⟨w.heap.size + 1, 1, none⟩ = some (.int .u8 (a1 : Int)) := BA.out.cell 1
  have l1 := BA.out.lt
  rw [← hW]
  clear hW hb hbb hb1 hv1 s0 s1 s2 s3 s4 s5 HS
  go_wp2_with fail
  refine (part_c _ a0 a1 ha0 ha1).mono ?_
  rw [HP.out]
  obtain ⟨P, hPe⟩ : ∃ P, fr false α β = P := ⟨_, rfl⟩
  have HPE := Lib.hid hPe
  rw [hPe]
  clear hPe
  rintro e w2 ⟨v2, rfl, hv2, hb2⟩
  obtain ⟨vp1, vp2, rfl, g1, g2⟩ := hv2
  obtain ⟨pp, cp, rfl, _, _⟩ := g1.shape
  obtain ⟨qp, dp, rfl, _, _⟩ := g2.shape
  go_upto_region 3 with fail
  obtain ⟨W2, hW⟩ : ∃ W2, W2 = w2.alloc (.cells #[.bool P.neg, .slice pp P.num.length cp, .slice qp P.den.length dp] 30) := ⟨_, rfl⟩
  have hb : Below w2.heap.size w2 W2 := hW ▸ held_alloc (Below.refl _ w2)
  have BP := Lib.hid (show Box W2 w2.heap.size #[.bool P.neg, .slice pp P.num.length cp, .slice qp P.den.length dp] 30 from hW ▸ Box.new w2 _ _)
  have FP := Lib.hid (show IsF W2 (.agg #[.bool P.neg, .slice pp P.num.length cp, .slice qp P.den.length dp]) P from ⟨_, _, rfl, g1.after hb, g2.after hb⟩)
  have hbb := hb2.trans (hb.mono hb2.size)
  replace HB := Lib.hid (HB.out.trans (hbb.mono HB.out.size))
  replace BR := Lib.hid (BR.out.after hbb)
  replace HRO := Lib.hid (HRO.out.after hbb)
  rw [← hW]
  clear hW hb hbb hb2 g1 g2 x0 x1 l1 BA
  obtain ⟨γ, hγ⟩ : ∃ γ, β - α = γ := ⟨_, rfl⟩
  have hαγ : α + γ = β := by omega
  have hsub := fq_turn HOK.out hab hb1000
  rw [HPE.out, hγ] at hsub
  obtain ⟨G, hG⟩ : ∃ G, FQ γ β = G := ⟨_, rfl⟩
  rw [hG] at hsub
  have HSUB := Lib.hid hsub
  have HG := Lib.hid hG
  have HGA := Lib.hid hγ
  have HAG := Lib.hid hαγ
  have HAB := Lib.hid hab
  have HBB := Lib.hid hb1000
  have HB0 := Lib.hid hβ
  clear hsub hG hγ hαγ hab hb1000 hβ
  have mkS : Hid (∀ w', Below W2.heap.size W2 w' → w'.cell? ⟨w2.heap.size, 0, none⟩ = some (.bool P.neg) ∧ w'.cell? ⟨w2.heap.size, 1, none⟩ = some (.slice pp P.num.length cp) ∧ w'.cell? ⟨w2.heap.size, 2, none⟩ = some (.slice qp P.den.length dp)) := fun w' hb => (BP.out.after hb).cells3
  have hltp := BP.out.lt
  go_cut [7, 8] (fun x e8 wx => ∃ B : Nat, x = .pointer (some ⟨B, 0, none⟩) ∧ e8 = .int .i64 0 ∧ W2.heap.size ≤ B ∧ Hid (VarF wx B G) ∧ Hid (Below W2.heap.size W2 wx))
  case first =>
    go_region_held3 (fun w' => w'.cell? ⟨w2.heap.size, 0, none⟩ = some (.bool P.neg) ∧ w'.cell? ⟨w2.heap.size, 1, none⟩ = some (.slice pp P.num.length cp) ∧ w'.cell? ⟨w2.heap.size, 2, none⟩ = some (.slice qp P.den.length dp))
      (first | (refine mkS.out _ ?_; (repeat (first | with_reducible exact hk2 | with_reducible exact hk1 | with_reducible exact Below.refl _ _ | with_reducible refine below_dr ?_ | with_reducible refine held_alloc ?_ | ((with_reducible refine held_set ?_ ?_); rotate_left; with_reducible exact hle))); done))
      (first
       | (go_at_call 13; refine (of32_c _ 1 1 (by omega) (by omega) (by omega) (by omega)).mono ?_; rw [w_11]; rintro e wa ⟨v, rfl, hv, hb1⟩; have CZ1 : Box wa W2.heap.size #[.bool false, .slice none 0 0, .slice none 0 0] 30 := (after_new (below_of_drew hb1)).2; have hk1 : Below W2.heap.size W2 wa := (after_new (below_of_drew hb1)).1)
       | (go_at_call 13; refine (of32_c _ 1 1 (by omega) (by omega) (by omega) (by omega)).mono ?_; rw [w_11]; rintro e wa ⟨v, rfl, hv, hb1⟩; have hk1 : Below W2.heap.size W2 wa := below_of_drew hb1)
       | (go_at_call 15; refine (Sub_c _ _ _ (fr false 1 1) P ?_ ?_).mono ?_; exact hv; exact FP.out.after hk1; rw [HSUB.out]; rintro e wb ⟨v, rfl, hv2, hb2⟩; have CZ : Box wb W2.heap.size #[.bool false, .slice none 0 0, .slice none 0 0] 30 := CZ1.after hb2; have hk2 := hk1.trans (hb2.mono hk1.size); have hle : W2.heap.size ≤ W2.heap.size := Nat.le_refl _; obtain ⟨z0, z1, z2⟩ := CZ.cells3; have f0 := CZ.frozen 0; have f1 := CZ.frozen 1; have f2 := CZ.frozen 2; have zlt := CZ.lt; have hv2 : IsF _ v G := hv2; obtain ⟨va, vb, rfl, h1, h2⟩ := hv2; obtain ⟨p6, cp6, rfl, _, _⟩ := h1.shape; obtain ⟨q6, cq6, rfl, _, _⟩ := h2.shape)
       | (go_at_call 15; refine (Sub_c _ _ _ (fr false 1 1) P ?_ ?_).mono ?_; exact hv.alloc _; exact (FP.out.after hk1).alloc _; rw [HSUB.out]; rintro e wb ⟨v, rfl, hv2, hb2⟩; have CZ : Box wb wa.heap.size #[.bool false, .slice none 0 0, .slice none 0 0] 30 := (after_new hb2).2; have hk2 := hk1.trans ((after_new hb2).1.mono hk1.size); have hle := hk1.size; obtain ⟨z0, z1, z2⟩ := CZ.cells3; have f0 := CZ.frozen 0; have f1 := CZ.frozen 1; have f2 := CZ.frozen 2; have zlt := CZ.lt; have hv2 : IsF _ v G := hv2; obtain ⟨va, vb, rfl, h1, h2⟩ := hv2; obtain ⟨p6, cp6, rfl, _, _⟩ := h1.shape; obtain ⟨q6, cq6, rfl, _, _⟩ := h2.shape)
       | (go_at_call 15; refine (Sub_c _ _ _ (fr false 1 1) P ?_ ?_).mono ?_; exact hv; exact FP.out.after hk1; rw [HSUB.out]; rintro e wb ⟨v, rfl, hv2, hb2⟩; have hk2 := hk1.trans (hb2.mono hk1.size); have hv2 : IsF _ v G := hv2; obtain ⟨va, vb, rfl, h1, h2⟩ := hv2; obtain ⟨p6, cp6, rfl, _, _⟩ := h1.shape; obtain ⟨q6, cq6, rfl, _, _⟩ := h2.shape)
       | (fail))
    all_goals
      (go_wp2_with fail
       go_meet
       case rel =>
         first
         | (refine ⟨_, rfl, rfl, ?_, ?_, ?_⟩
            rotate_left
            · (first | (with_reducible exact Lib.hid (VarF.putH CZ (IsF.at_ h1 h2))) | (with_reducible exact Lib.hid (VarF.newH (IsF.at_ h1 h2))))
            · (first | (with_reducible exact Lib.hid (Below.putH hk2 hle)) | (with_reducible exact Lib.hid (held_alloc hk2)))
            · (first | (with_reducible exact Nat.le_refl _) | (with_reducible exact hle) | (with_reducible exact hk2.size) | omega)))
  case rest =>
  obtain ⟨gB, rfl, rfl, hgB, VG, hbc⟩ := hcut
  have hb := hbc.out
  have l1 := BR.out.lt
  have l2 := BP.out.lt
  replace HB := Lib.hid (HB.out.trans (hb.mono HB.out.size))
  replace BR := Lib.hid (BR.out.after hb)
  replace HRO := Lib.hid (HRO.out.after hb)
  have VP : Hid (VarF wc w2.heap.size P) := by
    obtain ⟨_, e1, e2⟩ := (FP.out.after hb).parts
    exact ⟨_, _, BP.out.after hb, e1, e2⟩
  have l3 := VG.out.lt
  clear hb hbc mkS BP FP hltp
  go_wp2_with fail
  refine (of32_c _ 0 1 (by omega) (by omega) (by omega) (by omega)).mono ?_
  rw [w_01]
  obtain ⟨Z, hZ⟩ : ∃ Z, fr false 0 1 = Z := ⟨_, rfl⟩
  rw [hZ]
  rintro e w4 ⟨v4, rfl, hv4, hb4⟩
  obtain ⟨vz1, vz2, rfl, g1, g2⟩ := hv4
  obtain ⟨pz, cz, rfl, _, _⟩ := g1.shape
  obtain ⟨qz, dz, rfl, _, _⟩ := g2.shape
  go_upto_region 5 with fail
  obtain ⟨W4, hW⟩ : ∃ W4, W4 = w4.alloc (.cells #[.bool Z.neg, .slice pz Z.num.length cz, .slice qz Z.den.length dz] 30) := ⟨_, rfl⟩
  have hb : Below w4.heap.size w4 W4 := hW ▸ held_alloc (Below.refl _ w4)
  have hbb := hb4.trans (hb.mono hb4.size)
  have VS : Hid (VarF W4 w4.heap.size (FQ (addS R α γ R.hosts.length 0) (β ^ R.hosts.length))) := by
    have e0 : FQ (addS R α γ R.hosts.length 0) (β ^ R.hosts.length) = Z := by
      rw [show addS R α γ R.hosts.length 0 = 0 from rfl, fq_nil (Nat.pow_pos HB0.out), ← hZ]
      exact rep_zero.fst
    show VarF _ _ _
    rw [e0, hW]
    exact VarF.make g1 g2
  have l4 : wc.heap.size ≤ w4.heap.size := hb4.size
  have l7 : w.heap.size ≤ w4.heap.size := Nat.le_trans HB.out.size l4
  replace HB := Lib.hid (HB.out.trans (hbb.mono HB.out.size))
  replace BR := Lib.hid (BR.out.after hbb)
  replace HRO := Lib.hid (HRO.out.after hbb)
  replace VP := Lib.hid (VP.out.after hbb)
  replace VG := Lib.hid (VG.out.after hbb)
  have l5 := VS.out.lt
  have l6 := HB.out.size
  rw [← hW]
  clear hW hb hbb hb4 g1 g2 hZ
  obtain ⟨n, hn⟩ : ∃ n, R.hosts.length = n := ⟨_, rfl⟩
  have HN := Lib.hid hn
  rw [hn] at BR HRO VS hn6
  obtain ⟨c0, c1, c2, c3, c4, c5, c6, c7⟩ := BR.out.cells8
  obtain ⟨m, hm⟩ : ∃ m, 2 ^ n = m := ⟨_, rfl⟩
  have hn6' : n ≤ 6 := hn6
  have hm64 : m ≤ 64 := by rw [← hm]; exact Nat.pow_le_pow_right (by omega) hn6'
  have hw2 : wrap64 ((2 : Int) ^ n) = (m : Int) := by
    have h1 : ((2 : Int) ^ n) = (m : Int) := by rw [← hm]; push_cast; rfl
    rw [h1]
    unfold wrap64; omega
  have HM := Lib.hid hm
  obtain ⟨S, hS⟩ : ∃ S, w4.heap.size = S := ⟨_, rfl⟩
  rw [hS] at VS l4 l7 ⊢
  have hPS : w2.heap.size < S := by omega
  have hGS : gB < S := by omega
  have hRS : w1.heap.size < S := by omega
  clear hm hS hn
  go_wp2_with fail
  rw [hw2]
  clear hw2
  go_loopg [35] m (fun g t wx => ∃ b : Nat, b ≤ m ∧ g = m - b ∧ t = .int .i64 (b : Int) ∧ Hid (VarF wx S (FQ (addS R α γ n b) (β ^ n))) ∧ Hid (Fx (fun g => g = S) W4 wx))
  case atStart => exact ⟨0, Nat.zero_le _, rfl, rfl, VS, Lib.hid (Fx.refl _ _)⟩
  case round =>
    obtain ⟨b, hbm, rfl, rfl, hVS, hF⟩ := hrel
    have hdl := dull_f1 VS.out
    have BRb := Lib.hid (BR.out.fx hF.out (by omega))
    have HRb := Lib.hid (HRO.out.fx hF.out hdl)
    have VPb := Lib.hid (VP.out.fx hF.out hdl (by omega))
    have VGb := Lib.hid (VG.out.fx hF.out hdl (by omega))
    have HBb := Lib.hid (HB.out.trans (hF.out.toBelow HB.out.size (fun g e => by rw [e]; omega)))
    clear c0 c1 c2 c3 c4 c5 c6 c7
    obtain ⟨c0, c1, c2, c3, c4, c5, c6, c7⟩ := BRb.out.cells8
    have lR := BRb.out.lt
    clear hdl
    by_cases hlt : b < m
    · have hlt' : (b : Int) < (m : Int) := Int.ofNat_lt.2 hlt
      go_wp2_with fail
      refine (outcomes_c _ n b (by omega) (by omega)).mono ?_
      obtain ⟨fl, hfl⟩ : ∃ fl, bitsL n b = fl := ⟨_, rfl⟩
      have hfn : fl.length = n := by rw [← hfl, bitsL_len]
      have HFL := Lib.hid hfl
      have HFN := Lib.hid hfn
      rw [hfl]
      rintro e w5 ⟨v5, rfl, hvb, hb5⟩
      obtain ⟨pf, cf, rfl, hcf1, hcf2, _⟩ := hvb.shape
      have hfl1 : fl.length ≤ 1000000 := by omega
      replace BRb := Lib.hid (BRb.out.after hb5)
      replace HRb := Lib.hid (HRb.out.after hb5)
      replace VPb := Lib.hid (VPb.out.after hb5)
      replace VGb := Lib.hid (VGb.out.after hb5)
      replace HBb := Lib.hid (HBb.out.trans (hb5.mono HBb.out.size))
      have VSb := Lib.hid (hVS.out.after hb5)
      have HF5 := Lib.hid (hF.out.below hb5)
      have HV5 := Lib.hid hvb
      clear hfl hvb hb5 c0 c1 c2 c3 c4 c5 c6 c7 lR hVS hF
      obtain ⟨c0, c1, c2, c3, c4, c5, c6, c7⟩ := BRb.out.cells8
      have lR := BRb.out.lt
      have mkS : Hid (∀ w', Below w5.heap.size w5 w' → w'.cell? ⟨w1.heap.size, 0, none⟩ = some (.slice p0 n k0) ∧ w'.cell? ⟨w1.heap.size, 1, none⟩ = some (.slice p1 R.waves.length k1) ∧ w'.cell? ⟨w1.heap.size, 2, none⟩ = some (.bool R.rate.neg) ∧ w'.cell? ⟨w1.heap.size, 3, none⟩ = some (.slice p2 R.rate.num.length k2) ∧ w'.cell? ⟨w1.heap.size, 4, none⟩ = some (.slice p3 R.rate.den.length k3) ∧ w'.cell? ⟨w1.heap.size, 5, none⟩ = some (.bool R.bound.neg) ∧ w'.cell? ⟨w1.heap.size, 6, none⟩ = some (.slice p4 R.bound.num.length k4) ∧ w'.cell? ⟨w1.heap.size, 7, none⟩ = some (.slice p5 R.bound.den.length k5)) := fun w' hb => (BRb.out.after hb).cells8
      obtain ⟨ds, hrun, hne, hlast⟩ := runF_last HV.out (l := fl) (by rw [hfn]; exact HN.out.symm)
      have HRUN := Lib.hid hrun
      have HLAST := Lib.hid hlast
      clear hrun hlast hfn
      go_upto_region 9 with fail
      go_region_held3 (fun w' => w'.cell? ⟨w1.heap.size, 0, none⟩ = some (.slice p0 n k0) ∧ w'.cell? ⟨w1.heap.size, 1, none⟩ = some (.slice p1 R.waves.length k1) ∧ w'.cell? ⟨w1.heap.size, 2, none⟩ = some (.bool R.rate.neg) ∧ w'.cell? ⟨w1.heap.size, 3, none⟩ = some (.slice p2 R.rate.num.length k2) ∧ w'.cell? ⟨w1.heap.size, 4, none⟩ = some (.slice p3 R.rate.den.length k3) ∧ w'.cell? ⟨w1.heap.size, 5, none⟩ = some (.bool R.bound.neg) ∧ w'.cell? ⟨w1.heap.size, 6, none⟩ = some (.slice p4 R.bound.num.length k4) ∧ w'.cell? ⟨w1.heap.size, 7, none⟩ = some (.slice p5 R.bound.den.length k5))
        (first | (refine mkS.out _ ?_; (repeat (first | with_reducible exact hk2 | with_reducible exact hk1 | with_reducible exact Below.refl _ _ | with_reducible refine below_dr ?_)); done))
        (first
         | (go_at_call 18; refine (clone_b _ _ fl ?_ (by omega)).mono ?_; exact HV5.out.after (below_dr (Below.refl _ w5)); rintro e wa ⟨v, rfl, hv, _, hb1⟩; obtain ⟨pa, ca, rfl, _, _, _⟩ := hv.shape; have hk1 : Below w5.heap.size w5 wa := below_of_drew hb1)
         | (go_at_call 17; refine (Run_c _ _ _ R fl ?_ ?_).mono ?_; exact HRb.out.after hk1; exact hv; rw [HRUN.out]; rintro e wb ⟨v2, rfl, hv2, hb2⟩; have hv2 : SlD wb v2 ds := hv2; have hk2 := hk1.trans (hb2.mono hk1.size))
         | (fail))
      obtain ⟨a6, g6, rfl, _, _, _⟩ := SlD.shape4 hv2
      obtain ⟨k, hk⟩ : ∃ k, ds.length = k + 1 := ⟨ds.length - 1, by have := List.length_pos_iff.2 hne; omega⟩
      obtain ⟨b6, rfl, hb6, hcl⟩ := SlD.last hv2 hne
      rw [hk, Nat.add_sub_cancel] at hcl
      rw [HLAST.out] at hcl
      have hkl : k + 1 ≤ 9223372036854775807 := by omega
      rw [hk]
      replace BRb := Lib.hid (BRb.out.after hk2)
      replace HRb := Lib.hid (HRb.out.after hk2)
      replace VPb := Lib.hid (VPb.out.after hk2)
      replace VGb := Lib.hid (VGb.out.after hk2)
      replace HBb := Lib.hid (HBb.out.trans (hk2.mono HBb.out.size))
      replace VSb := Lib.hid (VSb.out.after hk2)
      replace HF5 := Lib.hid (HF5.out.below hk2)
      replace HV5 := Lib.hid (HV5.out.after hk2)
      have lS := VSb.out.lt
      clear hv2 hv hb1 hb2 hk1 hk2 mkS hk HLAST HRUN hne c0 c1 c2 c3 c4 c5 c6 c7 lR
      by_cases hal : alive R fl R.waves.length = true
      · rw [if_pos hal] at hcl
        have HAD : Hid (addS R α γ n (b + 1) = addS R α γ n b) := by
          show _ = _
          rw [← HN.out]
          exact addS_go (by rw [HN.out, HFL.out]; exact hal)
        clear hal
        go_wp2_with fail
        go_roundg (m - (b + 1))
        case measure => omega
        case rel => exact ⟨b + 1, by omega, rfl, by go_num, by rw [HAD.out]; exact VSb, HF5⟩
      · rw [if_neg hal] at hcl
        have HAL := Lib.hid hal
        clear hal
        obtain ⟨bf, of', rfl, hbf, hcf⟩ := SlB.cells HV5.out (by rw [HFN.out]; have := HV.out.1; rw [HN.out] at this; exact this)
        have HCF := Lib.hid hcf
        clear hcf
        go_upto_region 13 with fail
        go_wp2_with fail
        refine (of32_c _ 1 1 (by omega) (by omega) (by omega) (by omega)).mono ?_
        rw [w_11]
        obtain ⟨One, hOne⟩ : ∃ One, fr false 1 1 = One := ⟨_, rfl⟩
        rw [hOne]
        rintro e w6 ⟨v6, rfl, hv6, hb6'⟩
        obtain ⟨vo1, vo2, rfl, o1, o2⟩ := hv6
        obtain ⟨po, co, rfl, _, _⟩ := o1.shape
        obtain ⟨qo, do', rfl, _, _⟩ := o2.shape
        go_upto_region 14 with fail
        obtain ⟨W6, hW⟩ : ∃ W6, W6 = w6.alloc (.cells #[.bool One.neg, .slice po One.num.length co, .slice qo One.den.length do'] 30) := ⟨_, rfl⟩
        have hb : Below w6.heap.size w6 W6 := hW ▸ held_alloc (Below.refl _ w6)
        have hbb := hb6'.trans (hb.mono hb6'.size)
        have VW : Hid (VarF W6 w6.heap.size (FQ (wt α γ (fl.take 0)) (β ^ 0))) := by
          have e0 : FQ (wt α γ (fl.take 0)) (β ^ 0) = One := by
            rw [← hOne, Nat.pow_zero, List.take_zero]
            show FQ 1 1 = fr false 1 1
            exact fq_ok (small_ok (by omega) (by omega) (by omega) (by decide))
          show VarF _ _ _
          rw [e0, hW]
          exact VarF.make o1 o2
        have l8 : wb.heap.size ≤ w6.heap.size := hb6'.size
        have l10 : W4.heap.size ≤ w6.heap.size := Nat.le_trans HF5.out.size l8
        replace BRb := Lib.hid (BRb.out.after hbb)
        replace HRb := Lib.hid (HRb.out.after hbb)
        replace VPb := Lib.hid (VPb.out.after hbb)
        replace VGb := Lib.hid (VGb.out.after hbb)
        replace HBb := Lib.hid (HBb.out.trans (hbb.mono HBb.out.size))
        replace VSb := Lib.hid (VSb.out.after hbb)
        replace HF5 := Lib.hid (HF5.out.below hbb)
        replace HCF : Hid (∀ i, i < fl.length → W6.cell? ⟨bf, of' + i, none⟩ = some (.bool (atb fl i))) := fun i hi => keep_cell hbb (HCF.out i hi)
        have l9 := VW.out.lt
        rw [← hW]
        clear hW hb hbb hb6' o1 o2 hOne hcl
        obtain ⟨T, hT⟩ : ∃ T, w6.heap.size = T := ⟨_, rfl⟩
        rw [hT] at VW l8 l9 l10 ⊢
        clear hT
        have hST : S < T := by omega
        have hPT : w2.heap.size < T := by omega
        have hGT : gB < T := by omega
        have hRT : w1.heap.size < T := by omega
        have hfT : bf < T := by omega
        have hwT : w.heap.size ≤ T := by omega
        go_wp2_with fail
        go_loopg [69] fl.length (fun g t wx => ∃ i : Nat, i ≤ fl.length ∧ g = fl.length - i ∧ t = .int .i64 (i : Int) ∧ Hid (VarF wx T (FQ (wt α γ (fl.take i)) (β ^ i))) ∧ Hid (Fx (fun g => g = T) W6 wx))
        case atStart => exact ⟨0, Nat.zero_le _, rfl, rfl, VW, Lib.hid (Fx.refl _ _)⟩
        case round =>
          obtain ⟨i, hin, rfl, rfl, hVW, hFW⟩ := hrel
          have hdw := dull_f1 VW.out
          have VPi := Lib.hid (VPb.out.fx hFW.out hdw (by omega))
          have VGi := Lib.hid (VGb.out.fx hFW.out hdw (by omega))
          have VSi := Lib.hid (VSb.out.fx hFW.out hdw (by omega))
          clear hdw
          by_cases hil : i < fl.length
          · have hil' : (i : Int) < (fl.length : Int) := Int.ofNat_lt.2 hil
            have hci := hFW.out.cell (HCF.out i hil) (by show ¬ bf = T; omega)
            have HVW := hVW
            obtain ⟨_, _, bg, sg1, sg2⟩ := VGi.out
            obtain ⟨pg, cg, rfl, _, _⟩ := sg1.shape
            obtain ⟨qg, dg, rfl, _, _⟩ := sg2.shape
            obtain ⟨g0, g1, g2⟩ := bg.cells3
            have lg := bg.lt
            obtain ⟨_, _, bp', sp'1, sp'2⟩ := VPi.out
            obtain ⟨pp', cp', rfl, _, _⟩ := sp'1.shape
            obtain ⟨qp', dp', rfl, _, _⟩ := sp'2.shape
            obtain ⟨p0, p1, p2⟩ := bp'.cells3
            have lp := bp'.lt
            cases hab : atb fl i with
            | false =>
              rw [hab] at hci
              go_upto_region 20 with fail
              obtain ⟨W7, hW⟩ : ∃ W7, W7 = wr.alloc (.cells #[.bool G.neg, .slice pg G.num.length cg, .slice qg G.den.length dg] 30) := ⟨_, rfl⟩
              have hb : Below wr.heap.size wr W7 := hW ▸ held_alloc (Below.refl _ wr)
              have VX : Hid (VarF W7 wr.heap.size G) := hW ▸ VarF.make sg1 sg2
              have HMU : Hid (opF mulN (FQ (wt α γ (fl.take i)) (β ^ i)) G = (FQ (wt α γ (fl.take (i + 1))) (β ^ (i + 1)), 0)) := by
                have h16 : fl.length ≤ 16 := by rw [HFN.out]; omega
                have := wt_mul (a := α) (c := γ) (b := β) (i := i) (x := γ) (l := fl) HAG.out HBB.out HB0.out hil h16 (by rw [hab]; rfl)
                rw [HG.out] at this
                exact this
              rw [← hW]
              clear hW
              have HVW7 := Lib.hid (HVW.out.after hb)
              have HF7 := Lib.hid (hFW.out.below hb)
              have hbx := VX.out
              clear hVW hFW HVW hci hb
              obtain ⟨_, _, bx, sx1, sx2⟩ := hbx
              obtain ⟨px, cx, rfl, _, _⟩ := sx1.shape
              obtain ⟨qx, dx, rfl, _, _⟩ := sx2.shape
              obtain ⟨x0, x1, x2⟩ := bx.cells3
              have lx := bx.lt
              obtain ⟨_, _, by', sy1, sy2⟩ := HVW7.out
              obtain ⟨py, cy, rfl, _, _⟩ := sy1.shape
              obtain ⟨qy, dy, rfl, _, _⟩ := sy2.shape
              obtain ⟨y0, y1, y2⟩ := by'.cells3
              have ly := by'.lt
              obtain ⟨wi, hwi⟩ : ∃ wi, FQ (wt α γ (fl.take i)) (β ^ i) = wi := ⟨_, rfl⟩
              obtain ⟨wn, hwn⟩ : ∃ wn, FQ (wt α γ (fl.take (i + 1))) (β ^ (i + 1)) = wn := ⟨_, rfl⟩
              have HWN := Lib.hid hwn
              rw [hwi] at HVW7 HMU sy1 sy2 by' y0 y1 y2
              rw [hwn] at HMU
              clear hwi hwn
              go_wp2_with fail
              refine (Mul_c _ _ _ wi G (IsF.at_ sy1 sy2) (IsF.at_ sx1 sx2)).mono ?_
              rw [HMU.out]
              rintro e w8 ⟨v8, rfl, hv8, hb8⟩
              have hv8 : IsF w8 v8 wn := hv8
              obtain ⟨vm1, vm2, rfl, m1, m2⟩ := hv8
              obtain ⟨pm, cm, rfl, _, _⟩ := m1.shape
              obtain ⟨qm, dm, rfl, _, _⟩ := m2.shape
              have HM8 := Lib.hid (IsF.at_ m1 m2)
              have HVW8 := Lib.hid (HVW7.out.after hb8)
              have HF8 := Lib.hid (HF7.out.below hb8)
              have by8 := by'.after hb8
              obtain ⟨z0, z1, z2⟩ := by8.cells3
              have lz := by8.lt
              have fz0 := by8.frozen 0
              have fz1 := by8.frozen 1
              have fz2 := by8.frozen 2
              clear bx sx1 sx2 x0 x1 x2 lx by' sy1 sy2 y0 y1 y2 ly m1 m2 hb8 by8 HVW7 HF7 VX
              go_wp2_with fail
              obtain ⟨hst, hgr⟩ := VarF.store3 HVW8.out HM8.out
              have HST := Lib.hid hst
              have HF9 := Lib.hid (HF8.out.of hgr rfl)
              clear hst hgr
              go_roundg (fl.length - (i + 1))
              case measure => omega
              case rel => exact ⟨i + 1, by omega, rfl, by go_num, by rw [HWN.out]; exact HST, HF9⟩
            | true =>
              rw [hab] at hci
              go_upto_region 20 with fail
              obtain ⟨W7, hW⟩ : ∃ W7, W7 = wr.alloc (.cells #[.bool P.neg, .slice pp' P.num.length cp', .slice qp' P.den.length dp'] 30) := ⟨_, rfl⟩
              have hb : Below wr.heap.size wr W7 := hW ▸ held_alloc (Below.refl _ wr)
              have VX : Hid (VarF W7 wr.heap.size P) := hW ▸ VarF.make sp'1 sp'2
              have HMU : Hid (opF mulN (FQ (wt α γ (fl.take i)) (β ^ i)) P = (FQ (wt α γ (fl.take (i + 1))) (β ^ (i + 1)), 0)) := by
                have h16 : fl.length ≤ 16 := by rw [HFN.out]; omega
                have := wt_mul (a := α) (c := γ) (b := β) (i := i) (x := α) (l := fl) HAG.out HBB.out HB0.out hil h16 (by rw [hab]; rfl)
                rw [fq_ok HOK.out, HPE.out] at this
                exact this
              rw [← hW]
              clear hW
              have HVW7 := Lib.hid (HVW.out.after hb)
              have HF7 := Lib.hid (hFW.out.below hb)
              have hbx := VX.out
              clear hVW hFW HVW hci hb
              obtain ⟨_, _, bx, sx1, sx2⟩ := hbx
              obtain ⟨px, cx, rfl, _, _⟩ := sx1.shape
              obtain ⟨qx, dx, rfl, _, _⟩ := sx2.shape
              obtain ⟨x0, x1, x2⟩ := bx.cells3
              have lx := bx.lt
              obtain ⟨_, _, by', sy1, sy2⟩ := HVW7.out
              obtain ⟨py, cy, rfl, _, _⟩ := sy1.shape
              obtain ⟨qy, dy, rfl, _, _⟩ := sy2.shape
              obtain ⟨y0, y1, y2⟩ := by'.cells3
              have ly := by'.lt
              obtain ⟨wi, hwi⟩ : ∃ wi, FQ (wt α γ (fl.take i)) (β ^ i) = wi := ⟨_, rfl⟩
              obtain ⟨wn, hwn⟩ : ∃ wn, FQ (wt α γ (fl.take (i + 1))) (β ^ (i + 1)) = wn := ⟨_, rfl⟩
              have HWN := Lib.hid hwn
              rw [hwi] at HVW7 HMU sy1 sy2 by' y0 y1 y2
              rw [hwn] at HMU
              clear hwi hwn
              go_wp2_with fail
              refine (Mul_c _ _ _ wi P (IsF.at_ sy1 sy2) (IsF.at_ sx1 sx2)).mono ?_
              rw [HMU.out]
              rintro e w8 ⟨v8, rfl, hv8, hb8⟩
              have hv8 : IsF w8 v8 wn := hv8
              obtain ⟨vm1, vm2, rfl, m1, m2⟩ := hv8
              obtain ⟨pm, cm, rfl, _, _⟩ := m1.shape
              obtain ⟨qm, dm, rfl, _, _⟩ := m2.shape
              have HM8 := Lib.hid (IsF.at_ m1 m2)
              have HVW8 := Lib.hid (HVW7.out.after hb8)
              have HF8 := Lib.hid (HF7.out.below hb8)
              have by8 := by'.after hb8
              obtain ⟨z0, z1, z2⟩ := by8.cells3
              have lz := by8.lt
              have fz0 := by8.frozen 0
              have fz1 := by8.frozen 1
              have fz2 := by8.frozen 2
              clear bx sx1 sx2 x0 x1 x2 lx by' sy1 sy2 y0 y1 y2 ly m1 m2 hb8 by8 HVW7 HF7 VX
              go_wp2_with fail
              obtain ⟨hst, hgr⟩ := VarF.store3 HVW8.out HM8.out
              have HST := Lib.hid hst
              have HF9 := Lib.hid (HF8.out.of hgr rfl)
              clear hst hgr
              go_roundg (fl.length - (i + 1))
              case measure => omega
              case rel => exact ⟨i + 1, by omega, rfl, by go_num, by rw [HWN.out]; exact HST, HF9⟩
          · obtain rfl : i = fl.length := by omega
            have HVT : Hid (VarF wr T (FQ (wt α γ fl) (β ^ n))) := by
              have := hVW.out
              rw [List.take_length, HFN.out] at this
              exact this
            have HAA : Hid (opF sumN (FQ (addS R α γ n b) (β ^ n)) (FQ (wt α γ fl) (β ^ n)) = (FQ (addS R α γ n (b + 1)) (β ^ n), 0)) := by
              have := addS_add (b := b) HV.out HAG.out HBB.out HB0.out (by rw [HN.out, HM.out]; exact hlt) (by rw [HN.out, HFL.out]; exact HAL.out)
              rw [HN.out, HFL.out] at this
              exact this
            have HFR : Hid (Fx (fun g => g = S) W4 wr) := HF5.out.over hFW.out (fun g e => by rw [e]; exact l10)
            clear hVW hFW
            obtain ⟨s0, hs0⟩ : ∃ s0, FQ (addS R α γ n b) (β ^ n) = s0 := ⟨_, rfl⟩
            obtain ⟨s1, hs1⟩ : ∃ s1, FQ (addS R α γ n (b + 1)) (β ^ n) = s1 := ⟨_, rfl⟩
            obtain ⟨s2, hs2⟩ : ∃ s2, FQ (wt α γ fl) (β ^ n) = s2 := ⟨_, rfl⟩
            have HS1 := Lib.hid hs1
            rw [hs0] at VSi HAA
            rw [hs1] at HAA
            rw [hs2] at HVT HAA
            clear hs0 hs1 hs2
            obtain ⟨_, _, bx, sx1, sx2⟩ := VSi.out
            obtain ⟨px, cx, rfl, _, _⟩ := sx1.shape
            obtain ⟨qx, dx, rfl, _, _⟩ := sx2.shape
            obtain ⟨x0, x1, x2⟩ := bx.cells3
            have lx := bx.lt
            obtain ⟨_, _, by', sy'1, sy'2⟩ := HVT.out
            obtain ⟨py', cy', rfl, _, _⟩ := sy'1.shape
            obtain ⟨qy', dy', rfl, _, _⟩ := sy'2.shape
            obtain ⟨y0, y1, y2⟩ := by'.cells3
            have ly := by'.lt
            go_wp2_with fail
            refine (Add_c _ _ _ s0 s2 (IsF.at_ sx1 sx2) (IsF.at_ sy'1 sy'2)).mono ?_
            rw [HAA.out]
            rintro e w9 ⟨v9, rfl, hv9, hb9⟩
            have hv9 : IsF w9 v9 s1 := hv9
            obtain ⟨vm1, vm2, rfl, m1, m2⟩ := hv9
            obtain ⟨pm, cm, rfl, _, _⟩ := m1.shape
            obtain ⟨qm, dm, rfl, _, _⟩ := m2.shape
            have HM9 := Lib.hid (IsF.at_ m1 m2)
            have VS9 := Lib.hid (VSi.out.after hb9)
            have HF9 := Lib.hid (HFR.out.below hb9)
            have bx9 := bx.after hb9
            obtain ⟨z0, z1, z2⟩ := bx9.cells3
            have lz := bx9.lt
            have fz0 := bx9.frozen 0
            have fz1 := bx9.frozen 1
            have fz2 := bx9.frozen 2
            clear bx sx1 sx2 x0 x1 x2 lx by' sy'1 sy'2 y0 y1 y2 ly m1 m2 hb9 bx9 HFR VSi HVT
            go_wp2_with fail
            obtain ⟨hst, hgr⟩ := VarF.store3 VS9.out HM9.out
            have HST := Lib.hid hst
            have HFE := Lib.hid (HF9.out.of hgr rfl)
            clear hst hgr
            go_roundg (m - (b + 1))
            case measure => omega
            case rel => exact ⟨b + 1, by omega, rfl, by go_num, by rw [HS1.out]; exact HST, HFE⟩
    · obtain rfl : b = m := by omega
      have HCH : Hid (chanceF R P = (FQ (addS R α γ n b) (β ^ n), 0)) := by
        have := chance_adds HV.out HOK.out HAB.out HBB.out
        rw [HN.out, HM.out, HGA.out, HPE.out] at this
        exact this
      obtain ⟨s0, hs0⟩ : ∃ s0, FQ (addS R α γ n b) (β ^ n) = s0 := ⟨_, rfl⟩
      rw [hs0] at HCH hVS
      clear hs0
      obtain ⟨_, _, bp', sp'1, sp'2⟩ := VPb.out
      obtain ⟨pp', cp', rfl, _, _⟩ := sp'1.shape
      obtain ⟨qp', dp', rfl, _, _⟩ := sp'2.shape
      obtain ⟨p0, p1, p2⟩ := bp'.cells3
      have lp := bp'.lt
      go_wp2_with fail
      refine (Chance_c _ _ _ R P HRb.out (IsF.at_ sp'1 sp'2)).mono ?_
      rw [HCH.out]
      rintro e w9 ⟨v9, rfl, hv9, hb9⟩
      have hv9 : IsF w9 v9 s0 := hv9
      obtain ⟨vm1, vm2, rfl, m1, m2⟩ := hv9
      obtain ⟨pm, cm, rfl, _, _⟩ := m1.shape
      obtain ⟨qm, dm, rfl, _, _⟩ := m2.shape
      have VS9 := Lib.hid (hVS.out.after hb9)
      replace HBb := Lib.hid (HBb.out.trans (hb9.mono HBb.out.size))
      clear bp' sp'1 sp'2 p0 p1 p2 lp hVS hb9 hF c0 c1 c2 c3 c4 c5 c6 c7 lR
      go_upto_region 25 with fail
      obtain ⟨W9, hW⟩ : ∃ W9, W9 = w9.alloc (.cells #[.bool s0.neg, .slice pm s0.num.length cm, .slice qm s0.den.length dm] 30) := ⟨_, rfl⟩
      have hb : Below w9.heap.size w9 W9 := hW ▸ held_alloc (Below.refl _ w9)
      have VY : Hid (VarF W9 w9.heap.size s0) := hW ▸ VarF.make m1 m2
      replace VS9 := Lib.hid (VS9.out.after hb)
      replace HBb := Lib.hid (HBb.out.trans (hb.mono HBb.out.size))
      rw [← hW]
      clear hW hb m1 m2
      obtain ⟨_, _, bx, sx1, sx2⟩ := VS9.out
      obtain ⟨px, cx, rfl, _, _⟩ := sx1.shape
      obtain ⟨qx, dx, rfl, _, _⟩ := sx2.shape
      obtain ⟨x0, x1, x2⟩ := bx.cells3
      have lx := bx.lt
      obtain ⟨_, _, by', sy'1, sy'2⟩ := VY.out
      obtain ⟨py', cy', rfl, _, _⟩ := sy'1.shape
      obtain ⟨qy', dy', rfl, _, _⟩ := sy'2.shape
      obtain ⟨y0, y1, y2⟩ := by'.cells3
      have ly := by'.lt
      go_wp2_with fail
      refine (Same_c _ _ _ s0 s0 (IsF.at_ sy'1 sy'2) (IsF.at_ sx1 sx2)).mono ?_
      intro e w10 hr
      obtain ⟨rfl, hb⟩ := hr.yes rfl
      replace HBb := Lib.hid (HBb.out.trans (hb.mono HBb.out.size))
      clear bx sx1 sx2 x0 x1 x2 lx by' sy'1 sy'2 y0 y1 y2 ly hb hr VS9 VY
      go_wp2_with fail
      refine (works32_c _).mono ?_
      rintro e w11 ⟨rfl, hb⟩
      have HEND := Lib.hid (HBb.out.trans (hb.mono HBb.out.size))
      clear hb
      go_wp2_with fail
      go_ret
      exact ⟨rfl, HEND.out⟩
end Go.Proofs.Ytjjefdkadgkhfaa
