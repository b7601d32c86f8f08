/- The walk of CanaryDecides. -/
import Derived.Test.YtjjefdkadgkhfaaQG6
import Derived.Test.YtjjefdkadgkhfaaQG7
import Derived.Test.YtjjefdkadgkhfaaK26
import Derived.Test.YtjjefdkadgkhfaaK15
set_option linter.unusedVariables false
namespace Go.Proofs.Ytjjefdkadgkhfaa
open Go.RowKit

/-- The tail at n and k against the bound. -/
theorem goB_tail2 {R : Ro} (h : ValidR R) {n k : Nat} (hn : n ≤ 16) (hk : k ≤ n + 1) : ∃ x c, tailF (n : Int) (k : Int) R.rate = (x, 0) ∧ cmpF x R.bound = (c, 0) ∧ (c > 0 ↔ GoB R n k) := by
  obtain ⟨x, hx, hg⟩ := goB_tail h hn hk
  obtain ⟨a, b, x', y, e1, h1, h2, h3, h4, e2, h5, h6, _⟩ := validR_fr h
  obtain ⟨ht, hrep⟩ := tailF_q (m := n) (k := k) h4 h1 h3 (by omega) hk
  have e : x = Tq a b n k := by rw [e1, ht] at hx; exact (congrArg Prod.fst hx).symm
  refine ⟨x, (cmpF x R.bound).1, hx, ?_, hg⟩
  rw [e, e2, rep_cmp hrep (rep_of_ok h5)]
theorem allowed_at {R : Ro} {i : Nat} (hi : i < R.waves.length) : ati (allowedL R R.waves.length) i = (mOf R (cum R (i + 1)) : Int) - 1 := by
  unfold ati allowedL
  rw [List.getD_eq_getElem?_getD, List.getElem?_map, List.getElem?_range hi]
  rfl

theorem equal_ic (w : World) (va vb : Value) (a b : List Int) (h : SlI w va a) (k : SlI w vb b) : Calls Try.prog 26 #[va, vb] w (RetC w (a = b)) :=
  (equal_i w va vb a b h k).mono fun e w' h => by
    obtain ⟨r, e1, e2, n, e3⟩ := h
    exact ⟨r, e1, e2, e3 ▸ below_drewN w n _⟩

set_option pp.deepTerms true in
set_option pp.maxSteps 1000000 in
set_option maxRecDepth 100000 in
set_option maxHeartbeats 16000000 in
theorem canaryDecides_c (w : World) (v : Value) (h : Nat) (ws : List Nat) (r0 r1 b0 b1 bits : Nat) (k : IsS w v h ws r0 r1 b0 b1) (hbits : bits < 65536) : Calls Try.prog 7 #[v, .int .u16 (bits : Int)] w fun e w' => e = .returned (.bool true) ∧ Below w.heap.size w w' := by
  have hk := k
  obtain ⟨_, vw, rfl, hsw⟩ := k
  obtain ⟨pw, cw, rfl, _, _, _, _⟩ := hsw
  have hlm : (List.map (fun z => Value.int IntKind.u8 ((z : Nat) : Int)) ws).length = ws.length := by simp
  rw [hlm] at hk ⊢
  obtain ⟨R, hR⟩ : ∃ R, madeR h ws r0 r1 b0 b1 16 = R := ⟨_, rfl⟩
  have hv : ValidR R := hR ▸ madeR_valid h ws r0 r1 b0 b1 (by omega) (by omega)
  obtain ⟨W0, hW, bS, hb0⟩ : ∃ W0, W0 = w.alloc (.cells #[.int .u8 (h : Int), .slice pw ws.length cw, .int .u8 (r0 : Int), .int .u8 (r1 : Int), .int .u8 (b0 : Int), .int .u8 (b1 : Int)] 25) ∧ Box W0 w.heap.size #[.int .u8 (h : Int), .slice pw ws.length cw, .int .u8 (r0 : Int), .int .u8 (r1 : Int), .int .u8 (b0 : Int), .int .u8 (b1 : Int)] 25 ∧ Below w.heap.size w W0 :=
    ⟨_, rfl, Box.new w _ _, held_alloc (Below.refl _ w)⟩
  have s0 : W0.cell? ⟨w.heap.size, 0, none⟩ = some (.int .u8 (h : Int)) := bS.cell 0
  have s1 : W0.cell? ⟨w.heap.size, 1, none⟩ = some (.slice pw ws.length cw) := bS.cell 1
  have s2 : W0.cell? ⟨w.heap.size, 2, none⟩ = some (.int .u8 (r0 : Int)) := bS.cell 2
  have s3 : W0.cell? ⟨w.heap.size, 3, none⟩ = some (.int .u8 (r1 : Int)) := bS.cell 3
  have s4 : W0.cell? ⟨w.heap.size, 4, none⟩ = some (.int .u8 (b0 : Int)) := bS.cell 4
  have s5 : W0.cell? ⟨w.heap.size, 5, none⟩ = some (.int .u8 (b1 : Int)) := bS.cell 5
  have HS := Lib.hid (hk.after hb0)
  have HR := Lib.hid hR
  have HV := Lib.hid hv
  have HB := Lib.hid hb0
  obtain ⟨n, hn⟩ : ∃ n, R.hosts.length = n := ⟨_, rfl⟩
  have hn1 : 1 ≤ n := by rw [← hn]; exact hv.1
  have hn16 : n ≤ 16 := by rw [← hn]; exact hv.2.1
  have HN := Lib.hid hn
  obtain ⟨fl, hfl⟩ : ∃ fl, bitsL n bits = fl := ⟨_, rfl⟩
  have hfn : fl.length = n := by rw [← hfl, bitsL_len]
  have HFL := Lib.hid hfl
  have HFN := Lib.hid hfn
  clear hk hlm hR hv bS hb0 hfl hfn hn
  go_enter Try.func7, Try.ntmps7
  go_upto_region 1 with fail
  rw [← hW]
  clear hW
  go_wp2_with fail
  refine (made_c _ _ h ws r0 r1 b0 b1 16 HS.out (by omega) (by omega)).mono ?_
  rw [HR.out]
  rintro e w1 ⟨v1, rfl, hv1, hb1⟩
  have hop := hv1.open
  rw [HN.out] at hop
  obtain ⟨p0, p1, p2, p3, p4, p5, k0, k1, k2, k3, k4, k5, rfl, _, _, _, _⟩ := hop
  go_upto_region 2 with fail
  obtain ⟨W1, hW⟩ : ∃ W1, W1 = w1.alloc (.cells #[.slice p0 n k0, .slice p1 R.waves.length k1, .bool R.rate.neg, .slice p2 R.rate.num.length k2, .slice p3 R.rate.den.length k3, .bool R.bound.neg, .slice p4 R.bound.num.length k4, .slice p5 R.bound.den.length k5] 32) := ⟨_, rfl⟩
  have hb : Below w1.heap.size w1 W1 := hW ▸ held_alloc (Below.refl _ w1)
  have BR := Lib.hid (show Box W1 w1.heap.size #[.slice p0 n k0, .slice p1 R.waves.length k1, .bool R.rate.neg, .slice p2 R.rate.num.length k2, .slice p3 R.rate.den.length k3, .bool R.bound.neg, .slice p4 R.bound.num.length k4, .slice p5 R.bound.den.length k5] 32 from hW ▸ Box.new w1 _ _)
  have HRO := Lib.hid (hv1.after hb)
  have hbb := hb1.trans (hb.mono hb1.size)
  replace HB := Lib.hid (HB.out.trans (hbb.mono HB.out.size))
  rw [← hW]
  clear hW hb hbb hb1 hv1 s0 s1 s2 s3 s4 s5 HS
  obtain ⟨B, hB⟩ : ∃ B, w1.heap.size = B := ⟨_, rfl⟩
  rw [hB] at BR ⊢
  clear hB
  obtain ⟨c0, c1, c2, c3, c4, c5, c6, c7⟩ := BR.out.cells8
  go_wp2_with fail
  refine (outcomes_c _ n bits hn16 hbits).mono ?_
  rw [HFL.out]
  rintro e w2 ⟨v2, rfl, hv2, hb2⟩
  obtain ⟨pf, cf, rfl, hcf1, hcf2, hcf3⟩ := hv2.shape
  replace BR := Lib.hid (BR.out.after hb2)
  replace HRO := Lib.hid (HRO.out.after hb2)
  replace HB := Lib.hid (HB.out.trans (hb2.mono HB.out.size))
  have HF := Lib.hid hv2
  have hfl1 : fl.length ≤ 1000000 := by rw [HFN.out]; omega
  clear hv2 hb2 c0 c1 c2 c3 c4 c5 c6 c7
  obtain ⟨c0, c1, c2, c3, c4, c5, c6, c7⟩ := BR.out.cells8
  have lR := BR.out.lt
  have mkS : Hid (∀ w', Below w2.heap.size w2 w' → w'.cell? ⟨B, 0, none⟩ = some (.slice p0 n k0) ∧ w'.cell? ⟨B, 1, none⟩ = some (.slice p1 R.waves.length k1) ∧ w'.cell? ⟨B, 2, none⟩ = some (.bool R.rate.neg) ∧ w'.cell? ⟨B, 3, none⟩ = some (.slice p2 R.rate.num.length k2) ∧ w'.cell? ⟨B, 4, none⟩ = some (.slice p3 R.rate.den.length k3) ∧ w'.cell? ⟨B, 5, none⟩ = some (.bool R.bound.neg) ∧ w'.cell? ⟨B, 6, none⟩ = some (.slice p4 R.bound.num.length k4) ∧ w'.cell? ⟨B, 7, none⟩ = some (.slice p5 R.bound.den.length k5)) := fun w' hb => (BR.out.after hb).cells8
  go_upto_region 3 with fail
  obtain ⟨ds, hds⟩ : ∃ ds, runD R fl 0 R.waves.length = ds := ⟨_, rfl⟩
  have HDS := Lib.hid hds
  have HRUN : Hid (runF R fl = (ds, 0)) := by
    show _ = _
    unfold runF
    rw [if_pos HV.out, if_pos (by rw [HFN.out, HN.out]), hds]
  have hlen : ds.length ≤ 20 := by
    rw [← hds]
    have := runD_length R fl R.waves.length 0
    have h2 := waves_le HV.out
    omega
  have hpos : 0 < ds.length := by rw [← hds]; exact runD_pos R fl _ _
  obtain ⟨al, hal⟩ : ∃ al, allowedL R R.waves.length = al := ⟨_, rfl⟩
  have HAL : Hid (allowedF R = (al, 0)) := by
    show _ = _
    unfold allowedF
    rw [if_pos HV.out, hal]
  have HALL : Hid (al.length = R.waves.length) := by show _ = _; rw [← hal, allowedL_len]
  have HALI : Hid (∀ i, i < R.waves.length → ati al i = (mOf R (cum R (i + 1)) : Int) - 1) := by show ∀ _, _; rw [← hal]; exact fun i hi => allowed_at hi
  have hnw : R.waves.length ≤ 16 := waves_le HV.out
  clear hds hal
  have HFD : Hid (SlB w2.drew (.slice pf fl.length cf) fl) := HF.out.after (below_dr (Below.refl _ w2))
  go_region_held3 (fun w' => w'.cell? ⟨B, 0, none⟩ = some (.slice p0 n k0) ∧ w'.cell? ⟨B, 1, none⟩ = some (.slice p1 R.waves.length k1) ∧ w'.cell? ⟨B, 2, none⟩ = some (.bool R.rate.neg) ∧ w'.cell? ⟨B, 3, none⟩ = some (.slice p2 R.rate.num.length k2) ∧ w'.cell? ⟨B, 4, none⟩ = some (.slice p3 R.rate.den.length k3) ∧ w'.cell? ⟨B, 5, none⟩ = some (.bool R.bound.neg) ∧ w'.cell? ⟨B, 6, none⟩ = some (.slice p4 R.bound.num.length k4) ∧ w'.cell? ⟨B, 7, none⟩ = some (.slice p5 R.bound.den.length k5))
    (first | (refine mkS.out _ ?_; (repeat (first | with_reducible exact hk2 | with_reducible exact hk1 | with_reducible exact Below.refl _ _ | with_reducible refine below_dr ?_)); done))
    (first
     | (go_at_call 18; ((with_reducible refine (clone_b w2.drew (.slice pf fl.length cf) fl HFD.out hfl1).mono ?_); rintro e wa ⟨v, rfl, hv, _, hb1⟩; obtain ⟨pa, ca, rfl, _, _, _⟩ := hv.shape; have hk1 : Below w2.heap.size w2 wa := below_of_drew hb1))
     | (go_at_call 17; refine (Run_c _ _ _ R fl ?_ ?_).mono ?_; exact HRO.out.after hk1; exact hv; rw [HRUN.out]; rintro e wb ⟨v2, rfl, hv2, hb2⟩; have hv2 : SlD wb v2 ds := hv2; have hk2 := hk1.trans (hb2.mono hk1.size))
     | (fail))
  obtain ⟨a6, g6, rfl, hd1, hd2, hd3⟩ := SlD.shape4 hv2
  replace BR := Lib.hid (BR.out.after hk2)
  replace HRO := Lib.hid (HRO.out.after hk2)
  replace HB := Lib.hid (HB.out.trans (hk2.mono HB.out.size))
  replace HF := Lib.hid (HF.out.after hk2)
  have HD := Lib.hid hv2
  clear hv2 hv hb1 hb2 hk1 hk2 mkS HFD c0 c1 c2 c3 c4 c5 c6 c7 lR
  obtain ⟨c0, c1, c2, c3, c4, c5, c6, c7⟩ := BR.out.cells8
  go_wp2_with fail
  refine (Allowed_c _ _ R HRO.out).mono ?_
  rw [HAL.out]
  rintro e wA ⟨v4, rfl, hv4, hb4⟩
  have hv4 : SlI wA v4 al := hv4
  obtain ⟨pl, cl, rfl, _, _, _⟩ := hv4.shape
  rw [HALL.out] at hv4 ⊢
  replace BR := Lib.hid (BR.out.after hb4)
  replace HRO := Lib.hid (HRO.out.after hb4)
  replace HB := Lib.hid (HB.out.trans (hb4.mono HB.out.size))
  replace HF := Lib.hid (HF.out.after hb4)
  replace HD := Lib.hid (HD.out.after hb4)
  have HL := Lib.hid hv4
  clear hv4 hb4 c0 c1 c2 c3 c4 c5 c6 c7
  obtain ⟨c0, c1, c2, c3, c4, c5, c6, c7⟩ := BR.out.cells8
  have hdz : ((ds.length : Int) == 0) = false := beq_eq_false_iff_ne.2 (by omega)
  go_wp2_with fail
  clear c0 c1 c2 c3 c4 c5 c6 c7 hdz
  go_loopg [11, 63] ds.length (fun g t11 t63 wx => ∃ i : Nat, i < ds.length ∧ g = ds.length - i ∧ t11 = .int .i64 ((cum R i : Nat) : Int) ∧ t63 = .int .i64 (i : Int) ∧ Hid (Below wA.heap.size wA wx))
  case atStart => exact ⟨0, hpos, rfl, by rw [cum_zero]; rfl, rfl, Lib.hid (Below.refl _ _)⟩
  case round =>
    obtain ⟨i, hi, rfl, rfl, rfl, hbx⟩ := hrel
    have hlt' : (i : Int) < (ds.length : Int) := Int.ofNat_lt.2 hi
    obtain ⟨d, hd⟩ : ∃ d, ds[i]? = some d := ⟨ds[i], List.getElem?_eq_getElem hi⟩
    have HQ : Hid (DecQ R fl ds.length i d) := by
      have hq := run_q HV.out (by rw [HFN.out, HN.out]) (i := i) (d := d) (by rw [HDS.out]; exact hd)
      rw [HDS.out] at hq
      exact hq
    have hcl := cum_le HV.out i
    obtain ⟨m, hm⟩ : ∃ m, cum R i = m := ⟨_, rfl⟩
    rw [HN.out] at hcl
    rw [hm] at hcl ⊢
    have HM := Lib.hid hm
    obtain ⟨nd, hnd⟩ : ∃ nd, nextF R (fl.take m) = nd := ⟨_, rfl⟩
    have HND := Lib.hid hnd
    have HN2 : Hid (nd = (d, 0)) := by show _ = _; rw [← hnd, ← hm]; exact HQ.out.next
    clear hnd hm
    obtain ⟨a', c', he, _, _, _, hcells⟩ := HD.out
    obtain ⟨rfl, rfl⟩ : a6 = a' ∧ g6 = c' := by injection he with e1 _ e3; exact ⟨e1, e3⟩
    obtain ⟨bd, rfl, hbd, hcd⟩ := hcells (by omega)
    obtain ⟨u, hu1, hu2, hu3⟩ := hcd i d hd
    have hu3' := hu3.after hbx.out
    obtain ⟨pu, cu, rfl⟩ := hu3.shape
    have k1 := keep_cell hbx.out hu1
    have k2 := keep_cell hbx.out hu2
    have HU := Lib.hid hu3'.1
    clear hcells hcd hu1 hu2 hu3 hu3' hd he
    go_upto_region 11 with fail
    obtain ⟨W3, hW3⟩ : ∃ W3, W3 = wr.alloc (.cells #[.int .u8 (d.kind : Int), .slice pu d.hosts.length cu] 53) := ⟨_, rfl⟩
    have hb3 : Below wr.heap.size wr W3 := hW3 ▸ held_alloc (Below.refl _ wr)
    have BD := Lib.hid (show Box W3 wr.heap.size #[.int .u8 (d.kind : Int), .slice pu d.hosts.length cu] 53 from hW3 ▸ Box.new wr _ _)
    have HU3 := Lib.hid (HU.out.after hb3)
    have HB3 := Lib.hid (hbx.out.trans (hb3.mono hbx.out.size))
    rw [← hW3]
    clear hW3 hb3 HU k1 k2 hbx
    obtain ⟨D, hD⟩ : ∃ D, wr.heap.size = D := ⟨_, rfl⟩
    rw [hD] at BD ⊢
    clear hD
    have BR3 := Lib.hid (BR.out.after HB3.out)
    have HRO3 := Lib.hid (HRO.out.after HB3.out)
    have HF3 := Lib.hid (HF.out.after HB3.out)
    have lR := BR3.out.lt
    obtain ⟨c0, c1, c2, c3, c4, c5, c6, c7⟩ := BR3.out.cells8
    have mkS : Hid (∀ w', Below W3.heap.size W3 w' → w'.cell? ⟨B, 0, none⟩ = some (.slice p0 n k0) ∧ w'.cell? ⟨B, 1, none⟩ = some (.slice p1 R.waves.length k1) ∧ w'.cell? ⟨B, 2, none⟩ = some (.bool R.rate.neg) ∧ w'.cell? ⟨B, 3, none⟩ = some (.slice p2 R.rate.num.length k2) ∧ w'.cell? ⟨B, 4, none⟩ = some (.slice p3 R.rate.den.length k3) ∧ w'.cell? ⟨B, 5, none⟩ = some (.bool R.bound.neg) ∧ w'.cell? ⟨B, 6, none⟩ = some (.slice p4 R.bound.num.length k4) ∧ w'.cell? ⟨B, 7, none⟩ = some (.slice p5 R.bound.den.length k5)) := fun w' hb => (BR3.out.after hb).cells8
    have hfr : Hid (SlB W3.drew (.slice pf m cf) (fl.take m)) := (HF3.out.after (below_dr (Below.refl _ W3))).front m (by rw [HFN.out]; exact hcl)
    have hfrA : Hid (SlB (W3.alloc (.cells #[.int .u8 0, .slice none 0 0] 53)).drew (.slice pf m cf) (fl.take m)) := (SlB.after (HF3.out.alloc (.cells #[.int .u8 0, .slice none 0 0] 53)) (below_dr (Below.refl _ (W3.alloc (.cells #[.int .u8 0, .slice none 0 0] 53))))).front m (by rw [HFN.out]; exact hcl)
    have hq1 : (0 : Int) ≤ (m : Int) := by omega
    have hq2 : (m : Int) ≤ (cf : Int) := by have := HFN.out; omega
    have hq3 : (fl.take m).length ≤ 1000000 := by rw [List.length_take]; omega
    obtain ⟨tk, htk⟩ : ∃ tk, fl.take m = tk := ⟨_, rfl⟩
    rw [htk] at hfr hfrA HND hq3
    clear htk
    go_cut [14, 15] (fun x14 x15 wy => ∃ Z : Nat, x14 = .pointer (some ⟨Z, 0, none⟩) ∧ x15 = .int .i64 nd.2 ∧ Hid (VarD wy Z nd.1) ∧ Hid (Below W3.heap.size W3 wy))
    case first =>
      go_region_held3 (fun w' => w'.cell? ⟨B, 0, none⟩ = some (.slice p0 n k0) ∧ w'.cell? ⟨B, 1, none⟩ = some (.slice p1 R.waves.length k1) ∧ w'.cell? ⟨B, 2, none⟩ = some (.bool R.rate.neg) ∧ w'.cell? ⟨B, 3, none⟩ = some (.slice p2 R.rate.num.length k2) ∧ w'.cell? ⟨B, 4, none⟩ = some (.slice p3 R.rate.den.length k3) ∧ w'.cell? ⟨B, 5, none⟩ = some (.bool R.bound.neg) ∧ w'.cell? ⟨B, 6, none⟩ = some (.slice p4 R.bound.num.length k4) ∧ w'.cell? ⟨B, 7, none⟩ = some (.slice p5 R.bound.den.length k5))
        (first | (refine mkS.out _ ?_; (repeat (first | with_reducible exact hk2 | with_reducible exact hk1 | with_reducible exact Below.refl _ _ | with_reducible refine below_dr ?_ | with_reducible refine held_alloc ?_ | ((with_reducible refine held_set ?_ ?_); rotate_left; with_reducible exact hle))); done))
        (first
         | (go_at_call 18; ((with_reducible refine (clone_b W3.drew (.slice pf m cf) tk hfr.out hq3).mono ?_); rintro e wa ⟨v, rfl, hv, _, hb1⟩; obtain ⟨pa, ca, rfl, _, _, _⟩ := hv.shape; have hk1 : Below W3.heap.size W3 wa := below_of_drew hb1; have hle : W3.heap.size ≤ wa.heap.size := hk1.size))
         | (go_at_call 18; ((with_reducible refine (clone_b ((W3.alloc (.cells #[.int .u8 0, .slice none 0 0] 53)).drew) (.slice pf m cf) tk hfrA.out hq3).mono ?_); rintro e wa ⟨v, rfl, hv, _, hb1⟩; obtain ⟨pa, ca, rfl, _, _, _⟩ := hv.shape; have hk1 : Below W3.heap.size W3 wa := (after_new (below_of_drew hb1)).1; have CZ1 : Box wa W3.heap.size #[.int .u8 0, .slice none 0 0] 53 := (after_new (below_of_drew hb1)).2; have hle : W3.heap.size ≤ W3.heap.size := Nat.le_refl _))
         | (go_at_call 21; ((with_reducible refine (Next_c wa (.agg #[.slice p0 n k0, .slice p1 R.waves.length k1, .bool R.rate.neg, .slice p2 R.rate.num.length k2, .slice p3 R.rate.den.length k3, .bool R.bound.neg, .slice p4 R.bound.num.length k4, .slice p5 R.bound.den.length k5]) (.slice pa tk.length ca) R tk (HRO3.out.after hk1) hv).mono ?_); rw [HND.out]; rintro e wc ⟨v3, rfl, hv3, hb2⟩; obtain ⟨a3, g3, rfl⟩ := hv3.shape; have CZ : Box wc W3.heap.size #[.int .u8 0, .slice none 0 0] 53 := CZ1.after hb2; have hk2 : Below W3.heap.size W3 wc := hk1.trans (hb2.mono hk1.size); obtain ⟨z0, z1⟩ := CZ.cells2'; have f0 := CZ.frozen 0; have f1 := CZ.frozen 1; have zlt := CZ.lt))
         | (go_at_call 21; ((with_reducible refine (Next_c wa (.agg #[.slice p0 n k0, .slice p1 R.waves.length k1, .bool R.rate.neg, .slice p2 R.rate.num.length k2, .slice p3 R.rate.den.length k3, .bool R.bound.neg, .slice p4 R.bound.num.length k4, .slice p5 R.bound.den.length k5]) (.slice pa tk.length ca) R tk (HRO3.out.after hk1) hv).mono ?_); rw [HND.out]; rintro e wc ⟨v3, rfl, hv3, hb2⟩; obtain ⟨a3, g3, rfl⟩ := hv3.shape; have hk2 : Below W3.heap.size W3 wc := hk1.trans (hb2.mono hk1.size)))
         | (go_at_call 21; ((with_reducible refine (Next_c (wa.alloc (.cells #[.int .u8 0, .slice none 0 0] 53)) (.agg #[.slice p0 n k0, .slice p1 R.waves.length k1, .bool R.rate.neg, .slice p2 R.rate.num.length k2, .slice p3 R.rate.den.length k3, .bool R.bound.neg, .slice p4 R.bound.num.length k4, .slice p5 R.bound.den.length k5]) (.slice pa tk.length ca) R tk ((HRO3.out.after hk1).after (held_alloc (Below.refl _ _))) (SlB.alloc hv _)).mono ?_); rw [HND.out]; rintro e wc ⟨v3, rfl, hv3, hb2⟩; obtain ⟨a3, g3, rfl⟩ := hv3.shape; have CZ : Box wc wa.heap.size #[.int .u8 0, .slice none 0 0] 53 := (after_new hb2).2; have hk2 : Below W3.heap.size W3 wc := hk1.trans ((after_new hb2).1.mono hk1.size); obtain ⟨z0, z1⟩ := CZ.cells2'; have f0 := CZ.frozen 0; have f1 := CZ.frozen 1; have zlt := CZ.lt))
         | (fail))
      all_goals
        (go_wp2_with fail
         go_meet
         case rel =>
           first
           | (with_reducible exact ⟨_, rfl, rfl, Lib.hid (VarD.makeT hv3), Lib.hid (held_alloc hk2)⟩)
           | exact ⟨_, rfl, rfl, Lib.hid (VarD.put CZ hv3), Lib.hid (below_put2 hk2 hle)⟩)
    case rest =>
    obtain ⟨Z, rfl, rfl, hvd, hbc⟩ := hcut
    obtain rfl := HN2.out
    have hvd : VarD wc Z d := hvd.out
    obtain ⟨pz, cz, hbz, hsz⟩ := hvd
    obtain ⟨z0, z1⟩ := hbz.cells2'
    replace BD := Lib.hid (BD.out.after hbc.out)
    replace BR3 := Lib.hid (BR3.out.after hbc.out)
    replace HRO3 := Lib.hid (HRO3.out.after hbc.out)
    replace HF3 := Lib.hid (HF3.out.after hbc.out)
    replace HU3 := Lib.hid (HU3.out.after hbc.out)
    replace HB3 := Lib.hid (HB3.out.trans (hbc.out.mono HB3.out.size))
    have HSZ := Lib.hid hsz
    obtain ⟨y0, y1⟩ := BD.out.cells2'
    clear hbc hbz hsz hfr hfrA mkS c0 c1 c2 c3 c4 c5 c6 c7 lR HND HN2 hq3
    go_wp2_with fail
    refine (same32_c _ _ _ d d ⟨_, rfl, HSZ.out⟩ ⟨_, rfl, HU3.out⟩).mono ?_
    rintro e w5 ⟨r, rfl, hr, hb5⟩
    obtain rfl : r = true := hr.2 rfl
    replace BD := Lib.hid (BD.out.after hb5)
    replace BR3 := Lib.hid (BR3.out.after hb5)
    replace HRO3 := Lib.hid (HRO3.out.after hb5)
    replace HF3 := Lib.hid (HF3.out.after hb5)
    replace HU3 := Lib.hid (HU3.out.after hb5)
    replace HB3 := Lib.hid (HB3.out.trans (hb5.mono HB3.out.size))
    clear hr hb5 z0 z1 y0 y1 HSZ
    rcases Nat.eq_zero_or_pos i with hi0 | hip
    · have hk1 := HQ.out.first hi0
      have hip : decide ((0 : Int) < (i : Int)) = false := decide_eq_false (by omega)
      have hipn : decide (0 < i) = false := decide_eq_false (by omega)
      clear hi0
      obtain ⟨hiW, hdh, hin⟩ := HQ.out.wave hk1
      have hiW' : (i : Int) < (R.waves.length : Int) := Int.ofNat_lt.2 hiW
      have hdec : decide ((R.waves.length : Int) ≤ (i : Int)) = false := decide_eq_false (by omega)
      have hdn : decide (R.waves.length ≤ i) = false := decide_eq_false (by omega)
      have h0i : (0 : Int) ≤ (i : Int) := Int.natCast_nonneg i
      have hk1b : ((d.kind : Int) == 1) = true := by rw [beq_iff_eq, hk1]; rfl
      have hk1c : ((d.kind : Int) != 1) = false := by rw [bne, hk1b]; rfl
      obtain ⟨h0, h1, _, _⟩ := HRO3.out.parts
      obtain ⟨_, cc0, e0, m0, m1, _⟩ := h0.shape
      have hkk0 : n ≤ k0 := by injection e0 with x1 x2 x3; omega
      have hkk1 : k0 ≤ 9223372036854775807 := by injection e0 with x1 x2 x3; omega
      clear m0 m1 e0
      obtain ⟨bw, offw, rfl, _, hc⟩ := h1.cells (by omega)
      obtain ⟨bh, offh, rfl, _, _⟩ := h0.cells (by rw [HN.out]; omega)
      have hck := hc i hiW
      obtain ⟨s1, s2, s3⟩ := cum_succ HV.out hiW
      have s4 := cum_le HV.out (i + 1)
      have s5 := hostsOf_len HV.out hiW
      rw [← hdh] at s5
      rw [HM.out] at s3 s5 s1 hdh
      rw [HN.out] at s4
      have hho : Hid (SlI w5 (.slice (some ⟨bh, offh + m, none⟩) (cum R (i + 1) - m) (k0 - m)) d.hosts) := by
        show SlI _ _ _
        rw [hdh]
        exact h0.part m (cum R (i + 1)) (by omega) (by omega)
      obtain ⟨m', hm'⟩ : ∃ m', cum R (i + 1) = m' := ⟨_, rfl⟩
      obtain ⟨x, hx⟩ : ∃ x, ati R.waves i = x := ⟨_, rfl⟩
      have HM' := Lib.hid hm'
      rw [hm'] at s3 s4 s5 hho
      rw [hx] at s3 s2 hck
      have hhx : ((d.hosts.length : Int) == x) = true := by rw [beq_iff_eq]; omega
      have hhxc : ((d.hosts.length : Int) != x) = false := by rw [bne, hhx]; rfl
      have hmm : (m : Int) ≤ (m' : Int) := by omega
      have hmk : (m' : Int) ≤ (k0 : Int) := by omega
      have hwm : IntKind.i64.wrap (m' : Int) = (m' : Int) := wrap_in (by omega) (by omega)
      have hkm0 : ¬ k0 = m := by omega
      have hwm2 : IntKind.i64.wrap ((m : Int) + x) = (m' : Int) := by rw [s3, hwm]
      have hmmN : m ≤ m' := by omega
      have hmkN : m' ≤ k0 := by omega
      have h0m : (0 : Int) ≤ (m' : Int) := Int.natCast_nonneg _
      have HIN := Lib.hid hin
      clear h0 h1 hc s1 hx hm' hdh hk1 hin s5
      obtain ⟨c0, c1⟩ : w5.cell? ⟨B, 0, none⟩ = some (.slice (some ⟨bh, offh, none⟩) n k0) ∧ w5.cell? ⟨B, 1, none⟩ = some (.slice (some ⟨bw, offw, none⟩) R.waves.length k1) := ⟨BR3.out.cell 0, BR3.out.cell 1⟩
      obtain ⟨y0, y1⟩ := BD.out.cells2'
      go_upto_region 28 with fail
      have mkS : Hid (∀ w', Below w5.heap.size w5 w' → w'.cell? ⟨B, 0, none⟩ = some (.slice (some ⟨bh, offh, none⟩) n k0) ∧ w'.cell? ⟨B, 1, none⟩ = some (.slice (some ⟨bw, offw, none⟩) R.waves.length k1) ∧ w'.cell? ⟨D, 1, none⟩ = some (.slice pu d.hosts.length cu) ∧ w'.cell? ⟨bw, offw + i, none⟩ = some (.int .i64 x)) :=
        fun w' hb => ⟨(BR3.out.after hb).cell 0, (BR3.out.after hb).cell 1, (BD.out.after hb).cell 1, keep_cell hb hck⟩
      have HUD := Lib.hid (HU3.out.after (below_dr (Below.refl _ w5)))
      have HHD := Lib.hid (hho.out.after (below_dr (Below.refl _ w5)))
      go_region_held3 (fun w' => w'.cell? ⟨B, 0, none⟩ = some (.slice (some ⟨bh, offh, none⟩) n k0) ∧ w'.cell? ⟨B, 1, none⟩ = some (.slice (some ⟨bw, offw, none⟩) R.waves.length k1) ∧ w'.cell? ⟨D, 1, none⟩ = some (.slice pu d.hosts.length cu) ∧ w'.cell? ⟨bw, offw + i, none⟩ = some (.int .i64 x))
        (first | (refine mkS.out _ ?_; (repeat (first | with_reducible exact hk2 | with_reducible exact Below.refl _ _ | with_reducible refine below_dr ?_)); done))
        (first
         | (go_at_call 26; ((with_reducible refine (equal_ic w5.drew (.slice pu d.hosts.length cu) (.slice (some ⟨bh, offh + m, none⟩) (m' - m) (k0 - m)) d.hosts d.hosts HUD.out HHD.out).mono ?_); rintro e wa ⟨r, rfl, hr, hb1⟩; obtain rfl : r = true := hr.2 rfl; have hk2 : Below w5.heap.size w5 wa := below_of_drew hb1))
         | (fail))
      obtain ⟨c0, c1, _, hck⟩ := mkS.out _ hk2
      have HB9 := Lib.hid (HB3.out.trans (hk2.mono HB3.out.size))
      clear mkS HUD HHD
      go_wp2_with fail
      go_roundg (ds.length - (i + 1))
      case measure => omega
      case rel => exact ⟨i + 1, HIN.out, rfl, by rw [HM'.out], by go_num, HB9.out⟩
    · have hip' : (0 : Int) < (i : Int) := by omega
      obtain ⟨bf, fo, rfl, _, hcf⟩ := HF3.out.cells (by rw [HFN.out]; omega)
      have HCF := Lib.hid hcf
      clear hcf
      go_wp2_with fail
      go_loopg [16, 91] m (fun g t16 t91 wx => ∃ j : Nat, j ≤ m ∧ g = m - j ∧ t16 = .int .i64 (((fl.take j).count true : Nat) : Int) ∧ t91 = .int .i64 (j : Int) ∧ w5 = wx)
      case atStart => exact ⟨0, Nat.zero_le _, rfl, by simp, rfl, rfl⟩
      case round =>
        obtain ⟨j, hj, rfl, rfl, rfl, hwx⟩ := hrel
        subst hwx
        have hle := count_take_le fl j
        by_cases hjm : j < m
        · have hjm' : (j : Int) < (m : Int) := Int.ofNat_lt.2 hjm
          have hck := HCF.out j (by rw [HFN.out]; omega)
          have hjl : j < fl.length := by rw [HFN.out]; omega
          cases hv : atb fl j with
          | true =>
            have HS : Hid ((fl.take (j + 1)).count true = (fl.take j).count true + 1) := by show _ = _; rw [count_succ' hjl, hv]; rfl
            rw [hv] at hck
            clear hv
            go_wp2_with fail
            go_roundg (m - (j + 1))
            case measure => omega
            case rel => exact ⟨j + 1, by omega, rfl, by rw [HS.out]; go_num, by go_num, rfl⟩
          | false =>
            have HS : Hid ((fl.take (j + 1)).count true = (fl.take j).count true) := by show _ = _; rw [count_succ' hjl, hv]; rfl
            rw [hv] at hck
            clear hv
            go_wp2_with fail
            go_roundg (m - (j + 1))
            case measure => omega
            case rel => exact ⟨j + 1, by omega, rfl, by rw [HS.out], by go_num, rfl⟩
        · obtain rfl : m = j := by omega
          obtain ⟨k, hk⟩ : ∃ k, (fl.take m).count true = k := ⟨_, rfl⟩
          rw [hk] at hle ⊢
          obtain ⟨x, c, htl, hcm, hcg⟩ := goB_tail2 HV.out (n := m) (k := k) (by omega) (by omega)
          have hgo := HQ.out.go hip
          rw [HM.out, show failsN fl m = k from hk] at hgo
          obtain ⟨g, hg⟩ : ∃ g : Bool, g = decide (d.kind ≠ 2) := ⟨_, rfl⟩
          have hgc : decide ((0 : Int) < c) = g := by rw [hg]; exact decide_eq_decide.2 (hcg.trans hgo)
          obtain ⟨i1, hi1⟩ : ∃ i1, i = i1 + 1 := ⟨i - 1, by omega⟩
          have him : (i : Int) - 1 = (i1 : Int) := by omega
          have hiW := HQ.out.le
          have hi1W : i1 < R.waves.length := by omega
          have hi1W' : (i1 : Int) < (R.waves.length : Int) := Int.ofNat_lt.2 hi1W
          have hz := HALI.out i1 hi1W
          rw [← hi1, HM.out] at hz
          have hgm := (goB_mOf HV.out (n := m) (by omega)).2 k
          obtain ⟨bl, ol, rfl, _, hcl2⟩ := (HL.out.after HB3.out).cells (by rw [HALL.out]; omega)
          have hca := hcl2 i1 (by rw [HALL.out]; exact hi1W)
          obtain ⟨z, hz2⟩ : ∃ z, ati al i1 = z := ⟨_, rfl⟩
          rw [hz2] at hca hz
          have hgk : decide ((k : Int) ≤ z) = g := by
            rw [hg]
            refine decide_eq_decide.2 (Iff.trans ?_ hgo)
            rw [hgm]
            omega
          have hgd : ((d.kind : Int) != 2) = g := by
            rw [hg]
            by_cases h2 : d.kind = 2
            · rw [h2]; rfl
            · rw [decide_eq_true h2, bne_iff_ne]; omega
          have HTL := Lib.hid htl
          have HCM := Lib.hid hcm
          have HRT := Lib.hid HRO3.out.parts.2.2.1
          obtain ⟨c0, c1, c2, c3, c4, c5, c6, c7⟩ := BR3.out.cells8
          clear hcl2 hz2 hz hgm hg hcg hgo htl hcm hk hi1 hiW
          go_wp2_with fail
          refine (tTail_c _ (m : Int) (k : Int) _ R.rate HRT.out).mono ?_
          rw [HTL.out]
          rintro e w6 ⟨v6, rfl, hv6, hb6⟩
          have hv6 : IsF w6 v6 x := hv6
          obtain ⟨va, vb, rfl, e1, e2⟩ := hv6
          obtain ⟨q1, j1, rfl, _, _⟩ := e1.shape
          obtain ⟨q2, j2, rfl, _, _⟩ := e2.shape
          have FX := Lib.hid (IsF.at_ e1 e2)
          replace hca := keep_cell hb6 hca
          replace BD := Lib.hid (BD.out.after hb6)
          replace BR3 := Lib.hid (BR3.out.after hb6)
          replace HRO3 := Lib.hid (HRO3.out.after hb6)
          replace HU3 := Lib.hid (HU3.out.after hb6)
          replace HB3 := Lib.hid (HB3.out.trans (hb6.mono HB3.out.size))
          have HRB := Lib.hid HRO3.out.parts.2.2.2
          clear hb6 e1 e2 c0 c1 c2 c3 c4 c5 c6 c7
          obtain ⟨c0, c1, c2, c3, c4, c5, c6, c7⟩ := BR3.out.cells8
          have lR := BR3.out.lt
          go_wp2_with fail
          refine (Cmp_c _ _ _ x R.bound (FX.out.alloc _) (HRB.out.alloc _)).mono ?_
          rintro e w7 ⟨rfl, hb7⟩
          rw [HCM.out]
          obtain ⟨hb7, _⟩ := after_new hb7
          replace hca := keep_cell hb7 hca
          replace BD := Lib.hid (BD.out.after hb7)
          replace BR3 := Lib.hid (BR3.out.after hb7)
          replace HRO3 := Lib.hid (HRO3.out.after hb7)
          replace HU3 := Lib.hid (HU3.out.after hb7)
          replace HB3 := Lib.hid (HB3.out.trans (hb7.mono HB3.out.size))
          clear hb7 c0 c1 c2 c3 c4 c5 c6 c7 lR
          obtain ⟨y0, y1⟩ := BD.out.cells2'
          go_upto_region 26 with fail
          clear hgc hgk hgd him hca y0 y1 HTL HCM HRT HRB FX
          by_cases hk1 : d.kind = 1
          · obtain ⟨hiW, hdh, hin⟩ := HQ.out.wave hk1
            have hiW' : (i : Int) < (R.waves.length : Int) := Int.ofNat_lt.2 hiW
            have hdec : decide ((R.waves.length : Int) ≤ (i : Int)) = false := decide_eq_false (by omega)
            have hdn : decide (R.waves.length ≤ i) = false := decide_eq_false (by omega)
            have h0i : (0 : Int) ≤ (i : Int) := Int.natCast_nonneg i
            have hk1b : ((d.kind : Int) == 1) = true := by rw [beq_iff_eq, hk1]; rfl
            have hk1c : ((d.kind : Int) != 1) = false := by rw [bne, hk1b]; rfl
            obtain ⟨h0, h1, _, _⟩ := HRO3.out.parts
            obtain ⟨_, cc0, e0, m0, m1, _⟩ := h0.shape
            have hkk0 : n ≤ k0 := by injection e0 with x1 x2 x3; omega
            have hkk1 : k0 ≤ 9223372036854775807 := by injection e0 with x1 x2 x3; omega
            clear m0 m1 e0
            obtain ⟨bw, offw, rfl, _, hc⟩ := h1.cells (by omega)
            obtain ⟨bh, offh, rfl, _, _⟩ := h0.cells (by rw [HN.out]; omega)
            have hck := hc i hiW
            obtain ⟨s1, s2, s3⟩ := cum_succ HV.out hiW
            have s4 := cum_le HV.out (i + 1)
            have s5 := hostsOf_len HV.out hiW
            rw [← hdh] at s5
            rw [HM.out] at s3 s5 s1 hdh
            rw [HN.out] at s4
            have hho : Hid (SlI w7 (.slice (some ⟨bh, offh + m, none⟩) (cum R (i + 1) - m) (k0 - m)) d.hosts) := by
              show SlI _ _ _
              rw [hdh]
              exact h0.part m (cum R (i + 1)) (by omega) (by omega)
            obtain ⟨m', hm'⟩ : ∃ m', cum R (i + 1) = m' := ⟨_, rfl⟩
            obtain ⟨x, hx⟩ : ∃ x, ati R.waves i = x := ⟨_, rfl⟩
            have HM' := Lib.hid hm'
            rw [hm'] at s3 s4 s5 hho
            rw [hx] at s3 s2 hck
            have hhx : ((d.hosts.length : Int) == x) = true := by rw [beq_iff_eq]; omega
            have hhxc : ((d.hosts.length : Int) != x) = false := by rw [bne, hhx]; rfl
            have hmm : (m : Int) ≤ (m' : Int) := by omega
            have hmk : (m' : Int) ≤ (k0 : Int) := by omega
            have hwm : IntKind.i64.wrap (m' : Int) = (m' : Int) := wrap_in (by omega) (by omega)
            have hkm0 : ¬ k0 = m := by omega
            have hwm2 : IntKind.i64.wrap ((m : Int) + x) = (m' : Int) := by rw [s3, hwm]
            have hmmN : m ≤ m' := by omega
            have hmkN : m' ≤ k0 := by omega
            have h0m : (0 : Int) ≤ (m' : Int) := Int.natCast_nonneg _
            have HIN := Lib.hid hin
            clear h0 h1 hc s1 hx hm' hdh hk1 hin s5
            obtain ⟨c0, c1⟩ : w7.cell? ⟨B, 0, none⟩ = some (.slice (some ⟨bh, offh, none⟩) n k0) ∧ w7.cell? ⟨B, 1, none⟩ = some (.slice (some ⟨bw, offw, none⟩) R.waves.length k1) := ⟨BR3.out.cell 0, BR3.out.cell 1⟩
            obtain ⟨y0, y1⟩ := BD.out.cells2'
            go_upto_region 28 with fail
            have mkS : Hid (∀ w', Below w7.heap.size w7 w' → w'.cell? ⟨B, 0, none⟩ = some (.slice (some ⟨bh, offh, none⟩) n k0) ∧ w'.cell? ⟨B, 1, none⟩ = some (.slice (some ⟨bw, offw, none⟩) R.waves.length k1) ∧ w'.cell? ⟨D, 1, none⟩ = some (.slice pu d.hosts.length cu) ∧ w'.cell? ⟨bw, offw + i, none⟩ = some (.int .i64 x)) :=
              fun w' hb => ⟨(BR3.out.after hb).cell 0, (BR3.out.after hb).cell 1, (BD.out.after hb).cell 1, keep_cell hb hck⟩
            have HUD := Lib.hid (HU3.out.after (below_dr (Below.refl _ w7)))
            have HHD := Lib.hid (hho.out.after (below_dr (Below.refl _ w7)))
            go_region_held3 (fun w' => w'.cell? ⟨B, 0, none⟩ = some (.slice (some ⟨bh, offh, none⟩) n k0) ∧ w'.cell? ⟨B, 1, none⟩ = some (.slice (some ⟨bw, offw, none⟩) R.waves.length k1) ∧ w'.cell? ⟨D, 1, none⟩ = some (.slice pu d.hosts.length cu) ∧ w'.cell? ⟨bw, offw + i, none⟩ = some (.int .i64 x))
              (first | (refine mkS.out _ ?_; (repeat (first | with_reducible exact hk2 | with_reducible exact Below.refl _ _ | with_reducible refine below_dr ?_)); done))
              (first
               | (go_at_call 26; ((with_reducible refine (equal_ic w7.drew (.slice pu d.hosts.length cu) (.slice (some ⟨bh, offh + m, none⟩) (m' - m) (k0 - m)) d.hosts d.hosts HUD.out HHD.out).mono ?_); rintro e wa ⟨r, rfl, hr, hb1⟩; obtain rfl : r = true := hr.2 rfl; have hk2 : Below w7.heap.size w7 wa := below_of_drew hb1))
               | (fail))
            obtain ⟨c0, c1, _, hck⟩ := mkS.out _ hk2
            have HB9 := Lib.hid (HB3.out.trans (hk2.mono HB3.out.size))
            clear mkS HUD HHD
            go_wp2_with fail
            go_roundg (ds.length - (i + 1))
            case measure => omega
            case rel => exact ⟨i + 1, HIN.out, rfl, by rw [HM'.out], by go_num, HB9.out⟩
          · have hkd := (HQ.out.last hk1).2.2
            by_cases hk2 : d.kind = 2
            · obtain ⟨hl1, hl2, hl3⟩ := HQ.out.last (by omega)
              have hdl : (ds.length : Int) - 1 = (i : Int) := by omega
              have hhz : ((d.hosts.length : Int) == 0) = true := by rw [hl2]; rfl
              have hk1b : ((d.kind : Int) == 1) = false := beq_eq_false_iff_ne.2 (by omega)
              have hk1c : ((d.kind : Int) != 1) = true := by rw [bne, hk1b]; rfl
              have hk2b : ((d.kind : Int) == 2) = true := by rw [beq_iff_eq]; omega
              obtain ⟨c0, c1, _, _, _, _, _, _⟩ := BR3.out.cells8
              obtain ⟨y0, y1⟩ := BD.out.cells2'
              clear hl1 hl2 hl3 hkd
              go_wp2_with fail
              refine (works32_c _).mono ?_
              rintro e w9 ⟨rfl, hb9⟩
              have HEND := Lib.hid (HB.out.trans ((HB3.out.trans (hb9.mono HB3.out.size)).mono HB.out.size))
              clear hb9
              go_wp2_with fail
              go_ret
              exact ⟨rfl, HEND.out⟩
            · have hk3 : d.kind = 3 := by omega
              obtain ⟨hl1, hl2, hl3⟩ := HQ.out.last (by omega)
              have hdl : (ds.length : Int) - 1 = (i : Int) := by omega
              have hhz : ((d.hosts.length : Int) == 0) = true := by rw [hl2]; rfl
              have hk1b : ((d.kind : Int) == 1) = false := beq_eq_false_iff_ne.2 (by omega)
              have hk1c : ((d.kind : Int) != 1) = true := by rw [bne, hk1b]; rfl
              have hk2b : ((d.kind : Int) == 2) = false := beq_eq_false_iff_ne.2 (by omega)
              have hk3b : ((d.kind : Int) == 3) = true := by rw [beq_iff_eq]; omega
              have hmn : ((m : Int) == (n : Int)) = true := by
                rw [beq_iff_eq]
                rcases hl3 with h | ⟨_, h⟩
                · omega
                · rw [HM.out, HN.out] at h; omega
              obtain ⟨c0, c1, _, _, _, _, _, _⟩ := BR3.out.cells8
              obtain ⟨y0, y1⟩ := BD.out.cells2'
              clear hl1 hl2 hl3 hkd
              go_wp2_with fail
              refine (works32_c _).mono ?_
              rintro e w9 ⟨rfl, hb9⟩
              have HEND := Lib.hid (HB.out.trans ((HB3.out.trans (hb9.mono HB3.out.size)).mono HB.out.size))
              clear hb9
              go_wp2_with fail
              go_ret
              exact ⟨rfl, HEND.out⟩
end Go.Proofs.Ytjjefdkadgkhfaa
