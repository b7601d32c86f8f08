/- Walks of the reference's canary: Chance at a valid rollout and rate. -/
import Derived.Test.YtjjefdkadgkhfaaGreatQC19
set_option linter.unusedVariables false
namespace Go.Proofs.YtjjefdkadgkhfaaGreat
open Go.RowKit

/-- Behind r waves: what has stopped, and the row of what goes on. -/
def RG (R : Ro) (a c : Nat) (W1 : World) (sB r gb : Nat) (W : World) : Prop :=
  VarF W sB (FQ (gS R a c r) ((a + c) ^ cum R r)) ∧ RowQ W gb (cum R r + 1) (fun k => FQ (gN R a c r k) ((a + c) ^ cum R r)) ∧ sB < gb ∧ Fx (fun g => g = sB) W1 W
theorem VarF.dull {w : World} {s : Nat} {x : F} (h : VarF w s x) : Dull (fun g => g = s) w := Dull.of fun g hg => .inl ⟨x, by rw [hg]; exact h⟩
theorem RowQ.dull1 {w : World} {b n : Nat} {f : Nat → F} (h : RowQ w b n f) : Dull (fun g => g = b) w := h.dull
theorem Dull.or {w : World} {S T : Nat → Prop} (h : Dull S w) (k : Dull T w) : Dull (fun g => S g ∨ T g) w :=
  ⟨fun g hg => by rcases hg with hg | hg; exact h.1 g hg; exact k.1 g hg, fun g o z hg => by rcases hg with hg | hg; exact h.2 g o z hg; exact k.2 g o z hg⟩

set_option maxRecDepth 100000 in
set_option maxHeartbeats 16000000 in
theorem rChance_good (w : World) (v u : Value) (R : Ro) (x : F) (h : IsR w v R) (hp : IsF w u x) (hv : ValidR R) (hr : rateE x = 0) : Calls Tryz.prog 18 #[v, u] w (RetF w (chanceF R x)) := by
  obtain ⟨a, b, hxe, hab, hb0, hb1, hva, hvb⟩ := rate_fr hr
  have hok : Ok false a b := validF_fr.1 (hxe ▸ (fracE_zero (rateE_zero_frac hr)).1)
  have hspec : Hid (chanceF R x = (FQ (gS R a (b - a) R.waves.length) ((a + (b - a)) ^ cum R R.waves.length), 0)) := by
    show _ = _
    unfold chanceF
    rw [if_neg (by rw [hr]; rintro (h | h); exact h hv; omega), if_pos hr, hva, hvb, show a + (b - a) = b by omega]
  obtain ⟨c, hc⟩ : ∃ c, b - a = c := ⟨_, rfl⟩
  have hac : a + c = b := by omega
  have hac1 : a + c ≤ 1000 := by omega
  have hpos : 0 < a + c := by omega
  have hexj : Hid (∀ m k : Nat, m ≤ 16 → k ≤ m → exactlyF (m : Int) (k : Int) x = (FQ (ex a c m k) ((a + c) ^ m), 0)) := by
    intro m k hm hk
    have h1 := (exactlyF_q (k := k) hok hab hb1 (show m ≤ 64 by omega) hk).1
    rw [hxe, h1, hac]
    unfold Eq_ FQ
    rw [made_nat, hc]
  rw [hc] at hspec
  have HR1 := Lib.hid hr
  clear hc hva hvb
  have HX := h
  obtain ⟨p0, p1, p2, p3, p4, p5, k0, k1, k2, k3, k4, k5, rfl, _, hwaves, _, _⟩ := h.open
  obtain ⟨va, vb, rfl, h1, h2⟩ := hp
  obtain ⟨p, cp, rfl, _, _⟩ := h1.shape
  obtain ⟨q, cq, rfl, _, _⟩ := h2.shape
  obtain ⟨W0, hW, bR, bP, bO, hb0, hsz⟩ := start_ch w #[.slice p0 R.hosts.length k0, .slice p1 R.waves.length k1, .bool R.rate.neg, .slice p2 R.rate.num.length k2, .slice p3 R.rate.den.length k3, .bool R.bound.neg, .slice p4 R.bound.num.length k4, .slice p5 R.bound.den.length k5] #[.bool x.neg, .slice p x.num.length cp, .slice q x.den.length cq] #[.bool false, .slice none 0 0, .slice none 0 0] 28 26 26
  obtain ⟨c0, c1, c2, c3, c4, c5, c6, c7⟩ := bR.cells8
  have hl : w.heap.size + 2 < W0.heap.size := by omega
  have HP := Lib.hid (HX.after hb0)
  have HWV := Lib.hid (hwaves.after hb0)
  have HF := Lib.hid (show IsF W0 (.agg #[.bool x.neg, .slice p x.num.length cp, .slice q x.den.length cq]) x from ⟨_, _, rfl, h1.after hb0, h2.after hb0⟩)
  have VP := Lib.hid (show VarF W0 (w.heap.size + 1) x from ⟨_, _, bP, h1.after hb0, h2.after hb0⟩)
  have HB0 := Lib.hid hb0
  have BR := Lib.hid bR
  have BP := Lib.hid bP
  have BO := Lib.hid bO
  have HV := Lib.hid hv
  have hw16 := waves_le hv
  have HAC := Lib.hid hac1
  have HPOS := Lib.hid hpos
  clear HX h h1 h2 bR bO bP hb0 hsz hv hr hxe hok hab hb1 hac hac1 hpos hwaves
  go_enter Tryz.func18, Tryz.ntmps18
  go_upto_region 1 with fail
  rw [← hW]
  clear hW
  go_wp2_with fail
  refine (rcValid_c _ _ R HP.out (by omega)).mono ?_
  intro e w1 hr
  obtain ⟨rfl, hb1⟩ := hr.yes HV.out
  obtain ⟨x0, x1, x2⟩ := (BP.out.after hb1).cells3
  have HB1 := Lib.hid hb1
  clear hr hb1 c0 c1 c2 c3 c4 c5 c6 c7
  go_wp2_with fail
  refine (Rate_c _ _ x (HF.out.after HB1.out)).mono ?_
  rw [HR1.out]
  rintro e w2 ⟨rfl, hb2⟩
  have hb02 := HB1.out.trans (hb2.mono HB1.out.size)
  obtain ⟨x0, x1, x2⟩ := (BP.out.after hb02).cells3
  have HB2 := Lib.hid hb02
  clear hb2 hb02 HB1
  go_wp2_with fail
  refine (Rate_c _ _ x (HF.out.after HB2.out)).mono ?_
  rw [HR1.out]
  rintro e w3 ⟨rfl, hb3⟩
  have hb03 := HB2.out.trans (hb3.mono HB2.out.size)
  have HB3 := Lib.hid hb03
  clear hb3 hb03 HB2 x0 x1 x2
  go_upto_region 5 with fail
  go_wp2_with fail
  refine (ROf_c _ 0 1 (by omega) (by omega) (by omega) (by omega)).mono ?_
  rw [fq_zero]
  obtain ⟨z0, hz0⟩ : ∃ z, FQ 0 1 = z := ⟨_, rfl⟩
  rw [hz0]
  rintro e w4 ⟨v4, rfl, hv4, hb4⟩
  simp only [] at hv4
  obtain ⟨ve, vf, rfl, g1, g2⟩ := hv4
  obtain ⟨pe, cpe, rfl, _, _⟩ := g1.shape
  obtain ⟨qe, cqe, rfl, _, _⟩ := g2.shape
  go_upto_region 6 with fail
  obtain ⟨W5, hW5⟩ : ∃ W5, W5 = w4.alloc (.cells #[.bool z0.neg, .slice pe z0.num.length cpe, .slice qe z0.den.length cqe] 26) := ⟨_, rfl⟩
  have hb5 : Below w4.heap.size w4 W5 := hW5 ▸ held_alloc (Below.refl _ w4)
  have bz : Box W5 w4.heap.size #[.bool z0.neg, .slice pe z0.num.length cpe, .slice qe z0.den.length cqe] 26 := hW5 ▸ Box.new w4 _ _
  have HZ := Lib.hid (show IsF W5 (.agg #[.bool z0.neg, .slice pe z0.num.length cpe, .slice qe z0.den.length cqe]) z0 from ⟨_, _, rfl, g1.after hb5, g2.after hb5⟩)
  have BZ := Lib.hid bz
  have hb05 := HB3.out.trans ((hb4.trans (hb5.mono hb4.size)).mono HB3.out.size)
  have HB5 := Lib.hid hb05
  have hl4 : w.heap.size + 2 < w4.heap.size := Nat.lt_of_lt_of_le hl (HB3.out.trans (hb4.mono HB3.out.size)).size
  have hl5 := bz.lt
  rw [← hW5]
  clear hW5 hb5 hb4 hb05 g1 g2 bz HB3
  go_wp2_with fail
  refine (ROf_c _ 1 1 (by omega) (by omega) (by omega) (by omega)).mono ?_
  rw [fq_one]
  obtain ⟨y0, hy0⟩ : ∃ z, FQ 1 1 = z := ⟨_, rfl⟩
  rw [hy0]
  rintro e w6 ⟨v6, rfl, hv6, hb6⟩
  simp only [] at hv6
  obtain ⟨vg, vh, rfl, g1, g2⟩ := hv6
  obtain ⟨pg, cpg, rfl, _, _⟩ := g1.shape
  obtain ⟨qg, cqg, rfl, _, _⟩ := g2.shape
  obtain ⟨zc0, zc1, zc2⟩ := (BZ.out.after hb6).cells3
  have hl6 : w4.heap.size < w6.heap.size := Nat.lt_of_lt_of_le hl5 hb6.size
  go_upto_region 9 with fail
  obtain ⟨W9, hW9⟩ : ∃ W9, W9 = ((w6.alloc (.cells #[.bool y0.neg, .slice pg y0.num.length cpg, .slice qg y0.den.length cqg] 26)).alloc (.cells #[.bool z0.neg, .slice pe z0.num.length cpe, .slice qe z0.den.length cqe] 26)).alloc (.cells #[.bool y0.neg, .slice pg y0.num.length cpg, .slice qg y0.den.length cqg] 26) := ⟨_, rfl⟩
  have hb9 : Below w6.heap.size w6 W9 := hW9 ▸ held_alloc (held_alloc (held_alloc (Below.refl _ w6)))
  have bs : Box W9 (w6.heap.size + 1) #[.bool z0.neg, .slice pe z0.num.length cpe, .slice qe z0.den.length cqe] 26 := by
    have := (Box.new (w6.alloc (.cells #[.bool y0.neg, .slice pg y0.num.length cpg, .slice qg y0.den.length cqg] 26)) #[.bool z0.neg, .slice pe z0.num.length cpe, .slice qe z0.den.length cqe] 26).alloc (.cells #[.bool y0.neg, .slice pg y0.num.length cpg, .slice qg y0.den.length cqg] 26)
    rw [hW9]
    simpa using this
  have hsz9 : W9.heap.size = w6.heap.size + 3 := by rw [hW9]; simp
  have hg1 : Sl ((w6.alloc (.cells #[.bool y0.neg, .slice pg y0.num.length cpg, .slice qg y0.den.length cqg] 26)).alloc (.cells #[.bool z0.neg, .slice pe z0.num.length cpe, .slice qe z0.den.length cqe] 26)) (.slice pg y0.num.length cpg) y0.num := (g1.alloc _).alloc _
  have hg2 : Sl ((w6.alloc (.cells #[.bool y0.neg, .slice pg y0.num.length cpg, .slice qg y0.den.length cqg] 26)).alloc (.cells #[.bool z0.neg, .slice pe z0.num.length cpe, .slice qe z0.den.length cqe] 26)) (.slice qg y0.den.length cqg) y0.den := (g2.alloc _).alloc _
  have rq : RowQ W9 (w6.heap.size + 1 + 1) 1 (fun _ => y0) := by
    have := RowQ.one hg1 hg2
    rw [hW9]
    simpa using this
  have hb69 := hb6.trans (hb9.mono hb6.size)
  have vz : VarF W9 w4.heap.size z0 := by
    obtain ⟨_, e1, e2⟩ := (HZ.out.after hb69).parts
    exact ⟨_, _, BZ.out.after hb69, e1, e2⟩
  have vs : VarF W9 (w6.heap.size + 1) z0 := by
    obtain ⟨_, e1, e2⟩ := (HZ.out.after hb69).parts
    exact ⟨_, _, bs, e1, e2⟩
  have hb09 := HB5.out.trans (hb69.mono HB5.out.size)
  have rg0 : RG R a c W9 (w6.heap.size + 1) 0 (w6.heap.size + 1 + 1) W9 := by
    refine ⟨?_, ?_, by omega, Fx.refl _ _⟩
    · rw [cum_zero, Nat.pow_zero, show gS R a c 0 = 0 from rfl, hz0]
      exact vs
    · rw [cum_zero]
      refine rq.cong fun i hi => ?_
      obtain rfl : i = 0 := by omega
      rw [show gN R a c 0 0 = 1 from rfl, Nat.pow_zero, hy0]
  have RG0 := Lib.hid rg0
  have VZ := Lib.hid vz
  have VP9 := Lib.hid (VP.out.after hb09)
  have HP9 := Lib.hid (HP.out.after hb09)
  have HWV9 := Lib.hid (HWV.out.after hb09)
  have BR9 := Lib.hid (BR.out.after hb09)
  have BO9 := Lib.hid (BO.out.after hb09)
  have HB9 := Lib.hid (HB0.out.trans (hb09.mono HB0.out.size))
  have HZ0 := Lib.hid hz0
  have DS9 : Hid (Dull (fun g => g = w6.heap.size + 1) W9) := vs.dull
  obtain ⟨c0, c1, c2, c3, c4, c5, c6, c7⟩ := BR9.out.cells8
  have hltR := BR9.out.lt
  rw [← hW9]
  clear hW9 hb9 bs hg1 hg2 rq hb69 vz vs hb09 rg0 hb6 g1 g2 zc0 zc1 zc2 hz0 hy0 HZ BZ VP HP HWV BR BO HB0 HB5 BP HF
  have cz : Hid (((cum R 0 : Nat) : Int) = 0) := by show _ = _; rw [cum_zero]; rfl
  have cz1 : Hid (cum R 0 + 1 = 1) := by show _ = _; rw [cum_zero]
  go_wp2_with fail
  clear c0 c1 c2 c3 c4 c5 c6 c7
  go_loopg [11, 12, 50] R.waves.length (fun g gv n i wx => ∃ (r gb : Nat), r ≤ R.waves.length ∧ g = R.waves.length - r ∧ gv = .slice (some ⟨gb, 0, none⟩) (cum R r + 1) (cum R r + 1) ∧ n = .int .i64 ((cum R r : Nat) : Int) ∧ i = .int .i64 (r : Int) ∧ Hid (RG R a c W9 (w6.heap.size + 1) r gb wx))
  case atStart => exact ⟨0, w6.heap.size + 1 + 1, Nat.zero_le _, rfl, by rw [cz1.out], by rw [cz.out], rfl, RG0.out⟩
  case round =>
    obtain ⟨r, gb, hr, rfl, rfl, rfl, rfl, hrg⟩ := hrel
    by_cases hlt : r < R.waves.length
    · obtain ⟨wA, rfl⟩ : ∃ wA : World, wA = wr := ⟨_, rfl⟩
      obtain ⟨hvs, hrow, hsg, hfx⟩ := hrg.out
      obtain ⟨s1, s2⟩ := cum_wv HV.out hlt
      obtain ⟨_, _, t3⟩ := cum_succ HV.out hlt
      have s4 := cum_le HV.out (r + 1)
      have h16 : R.hosts.length ≤ 16 := HV.out.2.1
      have hxw : ati R.waves r = ((wv R r : Nat) : Int) := by omega
      obtain ⟨bw, offw, rfl, _, hcw⟩ := (HWV9.out.fx hfx DS9.out).cells (by omega)
      have hck := hcw r hlt
      rw [hxw] at hck
      have hszA := hfx.size
      have hgbl := hrow.lt
      obtain ⟨N, hN⟩ : ∃ N, cum R (r + 1) = N := ⟨_, rfl⟩
      have HNN := Lib.hid hN
      have hN17 : N ≤ 16 := by omega
      have hwvN : wv R r ≤ 16 := by omega
      have hcr16 : cum R r ≤ 16 := by omega
      have hcN : cum R r + wv R r = N := by omega
      have hadd : IntKind.i64.wrap (((cum R r : Nat) : Int) + ((wv R r : Nat) : Int)) = (N : Int) := by rw [wrap_in (by omega) (by omega)]; omega
      have hN1 : IntKind.i64.wrap ((N : Int) + 1) = (N : Int) + 1 := wrap_in (by omega) (by omega)
      have hmk : (Instr.makeSlice 78 (.int .i64 ((N : Int) + 1)) (.int .i64 ((N : Int) + 1))).run Tryz.prog wA = .ok (.slice (some ⟨wA.heap.size, 0, none⟩) (N + 1) (N + 1)) (wA.alloc (.cells (zeros3 (N + 1)) 26)) := run_makeF (N + 1) (by omega) wA
      have hb2 : Below wA.heap.size wA (wA.alloc (.cells (zeros3 (N + 1)) 26)) := held_alloc (Below.refl _ wA)
      have hrow2 := RowQ.made wA (N + 1)
      have VS2 := Lib.hid (hvs.after hb2)
      have GR2 := Lib.hid (hrow.after hb2)
      have VZ2 := Lib.hid ((VZ.out.fx hfx DS9.out (by omega)).after hb2)
      have VP2 := Lib.hid ((VP9.out.fx hfx DS9.out (by omega)).after hb2)
      have BR2 := Lib.hid ((BR9.out.fx hfx (by omega)).after hb2)
      have HP2 := Lib.hid ((HP9.out.fx hfx DS9.out).after hb2)
      have HFX2 := Lib.hid (hfx.below hb2)
      have HROW2 := Lib.hid hrow2
      have hsz2 : (wA.alloc (.cells (zeros3 (N + 1)) 26)).heap.size = wA.heap.size + 1 := by simp
      clear hvs hrow hfx hcw hb2 hrow2 hrg hN hxw
      go_upto_region 15 with fail
      obtain ⟨W2, hW2⟩ : ∃ W2, W2 = wA.alloc (.cells (zeros3 (N + 1)) 26) := ⟨_, rfl⟩
      rw [← hW2] at VS2 GR2 VZ2 VP2 BR2 HP2 HFX2 HROW2 hsz2 ⊢
      clear hW2 hmk hck
      have DN2 : Hid (Dull (fun g => g = wA.heap.size) W2) := HROW2.out.dull1
      obtain ⟨d, hd⟩ : ∃ d, (a + c) ^ N = d := ⟨_, rfl⟩
      have HD : Hid ((a + c) ^ cum R (r + 1) = d) := by show _ = _; rw [HNN.out, hd]
      have HDP : Hid (0 < d) := by show 0 < d; rw [← hd]; exact Nat.pow_pos HPOS.out
      have HDS : Hid (∀ z, z ≤ d → (limbs z).length ≤ 32) := fun z hz => pow_short HAC.out hN17 (by rw [hd]; exact hz)
      clear hd
      go_wp2_with fail
      go_loopg [62] (N + 1) (fun g t wx => ∃ i : Nat, i ≤ N + 1 ∧ g = N + 1 - i ∧ t = .int .i64 (i : Int) ∧ Hid (RowQ wx wA.heap.size (N + 1) (fun j => if j < i then z0 else F0)) ∧ Hid (Fx (fun g => g = wA.heap.size) W2 wx))
      case atStart => exact ⟨0, Nat.zero_le _, rfl, rfl, HROW2.out.cong (fun i _ => by rw [if_neg (by omega)]), Fx.refl _ _⟩
      case round =>
        obtain ⟨i, hi, rfl, rfl, hrow, hfx⟩ := hrel
        by_cases hlti : i < N + 1
        · obtain ⟨pi, ci, qi, di, e0, e1, e2, f0, f1, f2, _⟩ := hrow.out.entry hlti
          obtain ⟨vz1, vz2, bz, g1, g2⟩ := VZ2.out.fx hfx.out DN2.out (by omega)
          obtain ⟨pz, cz', rfl, _, _⟩ := g1.shape
          obtain ⟨qz, dz, rfl, _, _⟩ := g2.shape
          obtain ⟨y0', y1', y2'⟩ := bz.cells3
          have hset := Lib.hid ((hrow.out.set hlti g1 g2).cong (g := fun j => if j < i + 1 then z0 else F0) (fun j hj => by
            by_cases h1 : j = i
            · subst h1; simp
            · by_cases h2 : j < i
              · simp [h1, h2, show j < i + 1 by omega]
              · simp [h1, h2, show ¬ j < i + 1 by omega]))
          have hfx' := Lib.hid (hfx.out.of (grown_row wr wA.heap.size i (.bool z0.neg) (.slice pz z0.num.length cz') (.slice qz z0.den.length dz)) rfl)
          have il : (i : Int) < (N : Int) + 1 := by omega
          have i0 : (0 : Int) ≤ (i : Int) := by omega
          clear bz g1 g2 hrow hfx
          go_wp2_with fail
          go_roundg (N + 1 - (i + 1))
          case measure => omega
          case rel => exact ⟨i + 1, by omega, rfl, by go_num, hset.out, hfx'.out⟩
        · obtain rfl : i = N + 1 := by omega
          have hnl : ¬ ((N : Int) + 1 < (N : Int) + 1) := by omega
          have HFQ0 : Hid (FQ 0 d = z0) := by show _ = _; rw [fq_nil HDP.out, HZ0.out]
          have hrw0 : RowQ wr wA.heap.size (N + 1) (fun i => FQ (cvB (gN R a c r) (ex a c (wv R r)) 0 i) d) := hrow.out.cong (fun j hj => by
            rw [if_pos hj, show cvB (gN R a c r) (ex a c (wv R r)) 0 j = 0 from rfl, HFQ0.out])
          have HRW0 := Lib.hid hrw0
          have HFX0 := Lib.hid hfx.out
          clear hrow hfx hrw0
          rw [show (((N + 1 : Nat) : Int)) = (N : Int) + 1 from rfl]
          go_wp2_with fail
          go_loopg [72] (cum R r + 1) (fun g t wx => ∃ k : Nat, k ≤ cum R r + 1 ∧ g = cum R r + 1 - k ∧ t = .int .i64 (k : Int) ∧ Hid (RowQ wx wA.heap.size (N + 1) (fun i => FQ (cvB (gN R a c r) (ex a c (wv R r)) k i) d)) ∧ Hid (Fx (fun g => g = wA.heap.size) W2 wx))
          case atStart => exact ⟨0, Nat.zero_le _, rfl, rfl, HRW0.out, HFX0.out⟩
          case round =>
            clear HRW0 HFX0
            obtain ⟨k, hk, rfl, rfl, hrow, hfx⟩ := hrel
            by_cases hltk : k < cum R r + 1
            · obtain ⟨wB, rfl⟩ : ∃ wB : World, wB = wr := ⟨_, rfl⟩
              have hszB := hfx.out.size
              obtain ⟨pk, ck, qk, dk, e0, e1, e2, _, _, _, hxk⟩ := (GR2.out.fx hfx.out DN2.out (by omega)).entry hltk
              obtain ⟨xk, hxe⟩ : ∃ xk, FQ (gN R a c r k) ((a + c) ^ cum R r) = xk := ⟨_, rfl⟩
              have HXE := Lib.hid hxe
              simp only [hxe] at e0 e1 e2 hxk
              have hb6 : Below wB.heap.size wB (wB.alloc (.cells #[.bool xk.neg, .slice pk xk.num.length ck, .slice qk xk.den.length dk] 26)) := held_alloc (Below.refl _ wB)
              have hbx := Box.new wB #[.bool xk.neg, .slice pk xk.num.length ck, .slice qk xk.den.length dk] 26
              have HX6 := Lib.hid (hxk.after hb6)
              have hvp := (VP2.out.fx hfx.out DN2.out (by omega)).after hb6
              have HVP6 := Lib.hid hvp
              have HROW6 := Lib.hid ((hrow.out.after hb6).cong (g := fun i => FQ (cvQ (gN R a c r) (ex a c (wv R r)) k 0 i) d) (fun i _ => by rw [cvQ_start]))
              have HFX6 := Lib.hid (hfx.out.below hb6)
              have hsz6 : (wB.alloc (.cells #[.bool xk.neg, .slice pk xk.num.length ck, .slice qk xk.den.length dk] 26)).heap.size = wB.heap.size + 1 := by simp
              have BX6 := Lib.hid hbx
              have ik : (k : Int) < ((cum R r : Nat) : Int) + 1 := by omega
              have k0 : (0 : Int) ≤ (k : Int) := by omega
              clear hxe hxk hb6 hbx hvp hrow hfx
              go_upto_region 23 with fail
              obtain ⟨W6, hW6⟩ : ∃ W6, W6 = wB.alloc (.cells #[.bool xk.neg, .slice pk xk.num.length ck, .slice qk xk.den.length dk] 26) := ⟨_, rfl⟩
              rw [← hW6] at HX6 HVP6 HROW6 HFX6 hsz6 BX6 ⊢
              clear hW6 e0 e1 e2
              have DN6 : Hid (Dull (fun g => g = wA.heap.size) W6) := HROW6.out.dull1
              go_wp2_with fail
              go_loopg [19] (wv R r + 1) (fun g t wx => ∃ j : Nat, j ≤ wv R r + 1 ∧ g = wv R r + 1 - j ∧ t = .int .i64 (j : Int) ∧ Hid (RowQ wx wA.heap.size (N + 1) (fun i => FQ (cvQ (gN R a c r) (ex a c (wv R r)) k j i) d)) ∧ Hid (Fx (fun g => g = wA.heap.size) W6 wx))
              case atStart => exact ⟨0, Nat.zero_le _, rfl, rfl, HROW6.out, Fx.refl _ _⟩
              case round =>
                obtain ⟨j, hj, rfl, rfl, hrow, hfx⟩ := hrel
                by_cases hltj : j ≤ wv R r
                · have hji : (j : Int) ≤ ((wv R r : Nat) : Int) := by omega
                  have hsz7 := hfx.out.size
                  obtain ⟨va', vb', bp, g1, g2⟩ := HVP6.out.fx hfx.out DN6.out (by omega)
                  obtain ⟨px, cpx, rfl, _, _⟩ := g1.shape
                  obtain ⟨qx, cqx, rfl, _, _⟩ := g2.shape
                  obtain ⟨x0, x1, x2⟩ := bp.cells3
                  have HXR := Lib.hid (show IsF wr (.agg #[.bool x.neg, .slice px x.num.length cpx, .slice qx x.den.length cqx]) x from ⟨_, _, rfl, g1, g2⟩)
                  have HE1 := Lib.hid (hexj.out (wv R r) j hwvN hltj)
                  have hgb := gN_bound HV.out a c (Nat.le_of_lt hlt) k
                  have heb := ex_all_le a c (wv R r) j
                  have hprod : gN R a c r k * ex a c (wv R r) j ≤ (a + c) ^ cum R (r + 1) := by rw [← s1, Nat.pow_add]; exact Nat.mul_le_mul hgb heb
                  have hmul : opF mulN (FQ (gN R a c r k) ((a + c) ^ cum R r)) (FQ (ex a c (wv R r) j) ((a + c) ^ wv R r)) = (FQ (gN R a c r k * ex a c (wv R r) j) d, 0) := by
                    rw [← HD.out, ← s1, Nat.pow_add]
                    exact fq_mul (Nat.pow_pos HPOS.out) (Nat.pow_pos HPOS.out) (pow_short HAC.out hcr16 hgb) (pow_short HAC.out hwvN heb) (pow_short HAC.out hcr16 (Nat.le_refl _)) (pow_short HAC.out hwvN (Nat.le_refl _)) (pow_short HAC.out (by omega) hprod)
                      (by rw [← Nat.pow_add, s1]; exact pow_short HAC.out (by omega) (Nat.le_refl _))
                  have hqb : cvQ (gN R a c r) (ex a c (wv R r)) k (j + 1) (k + j) ≤ d := by rw [← HD.out]; exact cvQ_bound HV.out a c hlt (by omega) _ _
                  rw [cvQ_step, if_pos rfl] at hqb
                  have hsum : opF sumN (FQ (cvQ (gN R a c r) (ex a c (wv R r)) k j (k + j)) d) (FQ (gN R a c r k * ex a c (wv R r) j) d) = (FQ (cvQ (gN R a c r) (ex a c (wv R r)) k j (k + j) + gN R a c r k * ex a c (wv R r) j) d, 0) :=
                    fq_add HDP.out (HDS.out _ hqb) (HDS.out _ (Nat.le_refl _))
                  obtain ⟨y, hy⟩ : ∃ y, FQ (ex a c (wv R r) j) ((a + c) ^ wv R r) = y := ⟨_, rfl⟩
                  obtain ⟨tz, htz⟩ : ∃ z, FQ (gN R a c r k * ex a c (wv R r) j) d = z := ⟨_, rfl⟩
                  obtain ⟨ek, hek⟩ : ∃ z, FQ (cvQ (gN R a c r) (ex a c (wv R r)) k j (k + j)) d = z := ⟨_, rfl⟩
                  obtain ⟨rz, hrz⟩ : ∃ z, FQ (cvQ (gN R a c r) (ex a c (wv R r)) k j (k + j) + gN R a c r k * ex a c (wv R r) j) d = z := ⟨_, rfl⟩
                  rw [hy] at HE1
                  rw [hy, HXE.out, htz] at hmul
                  rw [hek, htz, hrz] at hsum
                  have HMUL := Lib.hid hmul
                  have HSUM := Lib.hid hsum
                  have HEK := Lib.hid hek
                  have HRZ := Lib.hid hrz
                  have hkjN : k + j < N + 1 := by omega
                  have BX8 := Lib.hid (BX6.out.fx hfx.out (by omega))
                  have HX8 := Lib.hid (HX6.out.fx hfx.out DN6.out)
                  have HROW := hrow
                  have HFX := hfx
                  clear bp g1 g2 hgb heb hprod hmul hqb hsum hy htz hek hrz hrow hfx
                  go_wp2_with fail
                  refine (rExactly_c _ ((wv R r : Nat) : Int) (j : Int) _ x HXR.out).mono ?_
                  rw [HE1.out]
                  rintro e w7 ⟨v7, rfl, hv7, hb7⟩
                  simp only [] at hv7
                  obtain ⟨vy1, vy2, rfl, g1, g2⟩ := hv7
                  obtain ⟨py, cy, rfl, _, _⟩ := g1.shape
                  obtain ⟨qy, dy, rfl, _, _⟩ := g2.shape
                  go_upto_region 27 with fail
                  obtain ⟨W8, hW8⟩ : ∃ W8, W8 = w7.alloc (.cells #[.bool y.neg, .slice py y.num.length cy, .slice qy y.den.length dy] 26) := ⟨_, rfl⟩
                  have hb8 : Below w7.heap.size w7 W8 := hW8 ▸ held_alloc (Below.refl _ w7)
                  have by8 : Box W8 w7.heap.size #[.bool y.neg, .slice py y.num.length cy, .slice qy y.den.length dy] 26 := hW8 ▸ Box.new w7 _ _
                  have hb78 := hb7.trans (hb8.mono hb7.size)
                  have HY8 := Lib.hid (show IsF W8 (.agg #[.bool y.neg, .slice py y.num.length cy, .slice qy y.den.length dy]) y from ⟨_, _, rfl, g1.after hb8, g2.after hb8⟩)
                  have BY8 := Lib.hid by8
                  replace HX8 := Lib.hid (HX8.out.after hb78)
                  replace BX8 := Lib.hid (BX8.out.after hb78)
                  replace HROW := Lib.hid (HROW.out.after hb78)
                  replace HFX := Lib.hid (HFX.out.below hb78)
                  have hwr7 : wr.heap.size ≤ w7.heap.size := hb7.size
                  obtain ⟨x0, x1, x2⟩ := BX8.out.cells3
                  obtain ⟨y0', y1', y2'⟩ := BY8.out.cells3
                  rw [← hW8]
                  clear hW8 hb8 by8 hb78 hb7 g1 g2 HXR
                  go_wp2_with fail
                  refine (rMul_c _ _ _ xk y HX8.out HY8.out).mono ?_
                  rw [HMUL.out]
                  rintro e w9 ⟨v9, rfl, hv9, hb9⟩
                  simp only [] at hv9
                  obtain ⟨vt1, vt2, rfl, g1, g2⟩ := hv9
                  obtain ⟨pt, ct, rfl, _, _⟩ := g1.shape
                  obtain ⟨qt, dt, rfl, _, _⟩ := g2.shape
                  have by9 := BY8.out.after hb9
                  obtain ⟨y0', y1', y2'⟩ := by9.cells3
                  have f0 := by9.frozen 0
                  have f1 := by9.frozen 1
                  have f2 := by9.frozen 2
                  have vy9 : VarF w9 w7.heap.size y := by
                    obtain ⟨_, e1, e2⟩ := (HY8.out.after hb9).parts
                    exact ⟨_, _, by9, e1, e2⟩
                  have vt := varF_set3 by9 (by intro x h; cases h) (by intro x h; cases h) (by intro x h; cases h) g1 g2
                  have hg10 := grown_set3 w9 w7.heap.size (.bool tz.neg) (.slice pt tz.num.length ct) (.slice qt tz.den.length dt)
                  have hrow10 := (HROW.out.after hb9).fx ((Fx.refl (fun g => g = w7.heap.size) w9).of hg10 rfl) vy9.dull (by omega)
                  have HVT := Lib.hid vt
                  have HROW10 := Lib.hid hrow10
                  have HFX10 := Lib.hid ((HFX.out.below hb9).new hg10 (by omega))
                  clear by9 vy9 vt hg10 hrow10 hb9 g1 g2 x0 x1 x2 HX8 HY8 BX8 BY8 HROW HFX
                  go_upto_region 28 with fail
                  obtain ⟨W10, hW10⟩ : ∃ W10, W10 = ((w9.setCell ⟨w7.heap.size, 0, none⟩ (.bool tz.neg)).setCell ⟨w7.heap.size, 1, none⟩ (.slice pt tz.num.length ct)).setCell ⟨w7.heap.size, 2, none⟩ (.slice qt tz.den.length dt) := ⟨_, rfl⟩
                  rw [← hW10] at HVT HROW10 HFX10 ⊢
                  clear hW10 y0' y1' y2' f0 f1 f2
                  obtain ⟨kj, hkje⟩ : ∃ m, k + j = m := ⟨_, rfl⟩
                  rw [hkje] at hkjN HEK HRZ
                  obtain ⟨pe', ce, qe', de, e0, e1, e2, _, _, _, hen⟩ := HROW10.out.entry hkjN
                  simp only [HEK.out] at e0 e1 e2 hen
                  obtain ⟨ty1, ty2, bt, h1, h2⟩ := HVT.out
                  obtain ⟨pt', ct', rfl, _, _⟩ := h1.shape
                  obtain ⟨qt', dt', rfl, _, _⟩ := h2.shape
                  obtain ⟨t0', t1', t2'⟩ := bt.cells3
                  have HEN := Lib.hid hen
                  have HTN := Lib.hid (IsF.at_ h1 h2)
                  have hkj : IntKind.i64.wrap ((k : Int) + (j : Int)) = (kj : Int) := by rw [wrap_in (by omega) (by omega)]; omega
                  have hkj0 : (0 : Int) ≤ (kj : Int) := by omega
                  have hkj1 : (kj : Int) < (N : Int) + 1 := by omega
                  have HKJ := Lib.hid hkje
                  clear hen bt h1 h2 hkje
                  go_region_with (first
                   | (go_at_call 44; refine (rAdd_c _ _ _ ek tz ?_ ?_).mono ?_; exact HEN.out.after (below_dr (Below.refl _ W10)); exact HTN.out.after (below_dr (Below.refl _ W10)); rw [HSUM.out]; rintro e w11 ⟨v11, rfl, hv11, hb11⟩; have hk11 := below_of_drew hb11; have hv11 : IsF w11 v11 rz := hv11; obtain ⟨vr1, vr2, rfl, i1, i2⟩ := hv11; obtain ⟨pr, cr, rfl, _, _⟩ := i1.shape; obtain ⟨qr, dr, rfl, _, _⟩ := i2.shape; have hrow11 := HROW10.out.after hk11; obtain ⟨_, _, _, _, r0, r1, r2, f0, f1, f2, _⟩ := hrow11.entry hkjN; simp only [HEK.out] at r0 r1 r2; have hltA := hrow11.lt))
                  all_goals
                    (have hset := Lib.hid ((hrow11.set hkjN i1 i2).cong (g := fun i => FQ (cvQ (gN R a c r) (ex a c (wv R r)) k (j + 1) i) d) (fun i _ => by
                       rw [cvQ_step, HKJ.out]
                       by_cases h1 : i = kj
                       · rw [if_pos h1, if_pos h1, h1]; exact HRZ.out.symm
                       · rw [if_neg h1, if_neg h1]))
                     have hfx' := Lib.hid ((HFX10.out.below hk11).of (grown_row w11 wA.heap.size kj (.bool rz.neg) (.slice pr rz.num.length cr) (.slice qr rz.den.length dr)) rfl)
                     clear hrow11 hk11 hb11 i1 i2 r0 r1 r2 f0 f1 f2 e0 e1 e2 t0' t1' t2'
                     go_wp2_with fail
                     go_roundg (wv R r + 1 - (j + 1))
                     case measure => omega
                     case rel => exact ⟨j + 1, by omega, rfl, by go_num, hset.out, hfx'.out⟩)
                · obtain rfl : j = wv R r + 1 := by omega
                  have hji : ¬ ((wv R r : Int) + 1 ≤ ((wv R r : Nat) : Int)) := by omega
                  rw [show (((wv R r + 1 : Nat) : Int)) = (wv R r : Int) + 1 from rfl]
                  have HREND := Lib.hid (hrow.out.cong (g := fun i => FQ (cvB (gN R a c r) (ex a c (wv R r)) (k + 1) i) d) (fun i _ => by rw [cvQ_end (ex_far a c (wv R r))]))
                  have HFEND := Lib.hid (HFX6.out.trans hfx.out)
                  clear hrow hfx
                  go_wp2_with fail
                  go_roundg (cum R r + 1 - (k + 1))
                  case measure => omega
                  case rel => exact ⟨k + 1, by omega, rfl, by go_num, HREND.out, HFEND.out⟩
            · obtain rfl : k = cum R r + 1 := by omega
              have hnk : ¬ (((cum R r : Nat) : Int) + 1 < ((cum R r : Nat) : Int) + 1) := by omega
              have hcast : (((cum R r + 1 : Nat) : Nat) : Int) = ((cum R r : Nat) : Int) + 1 := by omega
              rw [hcast]
              have HRW5 := Lib.hid (hrow.out.cong (g := fun i => if i < 0 then FQ (gN R a c (r + 1) i) d else FQ (nN R a c r i) d) (fun i _ => by rw [cvB_nN HV.out a c (Nat.le_of_lt hlt), if_neg (by omega)]))
              have hss0 : VarF W2 (w6.heap.size + 1) (FQ (sS R a c r 0) d) := by
                have h1 : sS R a c r 0 = gS R a c r * (a + c) ^ wv R r := rfl
                rw [h1, ← HD.out, ← s1, Nat.pow_add, fq_scale (Nat.pow_pos HPOS.out) (Nat.pow_pos HPOS.out)]
                exact VS2.out
              have hvw : VarF wr (w6.heap.size + 1) (FQ (sS R a c r 0) d) := hss0.fx hfx.out DN2.out (by omega)
              have HVW := Lib.hid hvw
              have DT2 : Hid (Dull (fun g => g = wA.heap.size ∨ g = w6.heap.size + 1) W2) := DN2.out.or VS2.out.dull
              have HFX5 := Lib.hid (hfx.out.mono (T := fun g => g = wA.heap.size ∨ g = w6.heap.size + 1) (fun b hb => .inl hb))
              clear hrow hfx hss0 hvw hcast
              go_wp2_with fail
              go_loopg [114] (N + 1) (fun g t wx => ∃ k : Nat, k ≤ N + 1 ∧ g = N + 1 - k ∧ t = .int .i64 (k : Int) ∧ Hid (RowQ wx wA.heap.size (N + 1) (fun i => if i < k then FQ (gN R a c (r + 1) i) d else FQ (nN R a c r i) d)) ∧ Hid (VarF wx (w6.heap.size + 1) (FQ (sS R a c r k) d)) ∧ Hid (Fx (fun g => g = wA.heap.size ∨ g = w6.heap.size + 1) W2 wx))
              case atStart => exact ⟨0, Nat.zero_le _, rfl, rfl, HRW5.out, HVW.out, HFX5.out⟩
              case round =>
                clear HRW5 HVW HFX5
                obtain ⟨k, hk, rfl, rfl, hrow, hvs, hfx⟩ := hrel
                by_cases hltk : k < N + 1
                · have ik : (k : Int) < (N : Int) + 1 := by omega
                  have k0 : (0 : Int) ≤ (k : Int) := by omega
                  have hszr := hfx.out.size
                  have hsl := hvs.out.lt
                  obtain ⟨b0, b1, b2, b3, b4, b5, b6, b7⟩ := (BR2.out.fx hfx.out (by rintro (e | e) <;> omega)).cells8
                  have HPr := Lib.hid (HP2.out.fx hfx.out DT2.out)
                  go_wp2_with fail
                  refine (goesOn_c _ _ R N k HPr.out HV.out hN17 (by omega)).mono ?_
                  intro e w5 hgo
                  have hgi : GoB R N k ↔ k < mOf R (cum R (r + 1)) := by rw [← HNN.out]; exact go_iff HV.out (by omega) k
                  by_cases hkm : k < mOf R (cum R (r + 1))
                  · obtain ⟨rfl, hb5⟩ := hgo.yes (hgi.2 hkm)
                    have HR5 := Lib.hid ((hrow.out.after hb5).cong (g := fun i => if i < k + 1 then FQ (gN R a c (r + 1) i) d else FQ (nN R a c r i) d) (fun i _ => by
                      by_cases h1 : i < k
                      · rw [if_pos h1, if_pos (by omega)]
                      · by_cases h2 : i = k
                        · subst h2
                          rw [if_neg h1, if_pos (by omega), gN_succ, if_pos hkm]
                        · rw [if_neg h1, if_neg (by omega)]))
                    have HV5 : Hid (VarF w5 (w6.heap.size + 1) (FQ (sS R a c r (k + 1)) d)) := by
                      show VarF _ _ _
                      rw [sS_go hkm]
                      exact hvs.out.after hb5
                    have HF5 := Lib.hid (hfx.out.below hb5)
                    clear hgo hb5 hrow hvs hfx hgi hkm b0 b1 b2 b3 b4 b5 b6 b7
                    go_wp2_with fail
                    go_roundg (N + 1 - (k + 1))
                    case measure => omega
                    case rel => exact ⟨k + 1, by omega, rfl, by go_num, HR5.out, HV5.out, HF5.out⟩
                  · obtain ⟨rfl, hb5⟩ := hgo.no (fun h => hkm (hgi.1 h))
                    have hsb : sS R a c r (k + 1) ≤ d := by rw [← HD.out]; exact sS_bound HV.out a c hlt (by omega)
                    have hsum : opF sumN (FQ (sS R a c r k) d) (FQ (nN R a c r k) d) = (FQ (sS R a c r (k + 1)) d, 0) := by
                      have h1 := sS_stop (R := R) (a := a) (c := c) (r := r) hkm
                      rw [h1] at hsb ⊢
                      exact fq_add HDP.out (HDS.out _ hsb) (HDS.out _ (Nat.le_refl _))
                    obtain ⟨sv, hsv⟩ : ∃ z, FQ (sS R a c r k) d = z := ⟨_, rfl⟩
                    obtain ⟨nk, hnk'⟩ : ∃ z, FQ (nN R a c r k) d = z := ⟨_, rfl⟩
                    obtain ⟨tv, htv⟩ : ∃ z, FQ (sS R a c r (k + 1)) d = z := ⟨_, rfl⟩
                    rw [hsv, hnk', htv] at hsum
                    have hrow5 := hrow.out.after hb5
                    obtain ⟨pe', ce, qe', de, e0, e1, e2, _, _, _, hen⟩ := hrow5.entry hltk
                    simp only [Nat.lt_irrefl, if_false, hnk'] at e0 e1 e2 hen
                    have hvs5 := hvs.out.after hb5
                    rw [hsv] at hvs5
                    have hvd := hvs5.dull
                    obtain ⟨sy1, sy2, bs, h1, h2⟩ := hvs5
                    obtain ⟨ps, cs, rfl, _, _⟩ := h1.shape
                    obtain ⟨qs, ds, rfl, _, _⟩ := h2.shape
                    obtain ⟨t0', t1', t2'⟩ := bs.cells3
                    have BS5 := Lib.hid bs
                    have HSN := Lib.hid (IsF.at_ h1 h2)
                    have HEN := Lib.hid hen
                    have HSUM := Lib.hid hsum
                    have HTV := Lib.hid htv
                    have HROW5 := Lib.hid hrow5
                    have HF5 := Lib.hid (hfx.out.below hb5)
                    have HKM := Lib.hid hkm
                    clear hgo hb5 hrow hvs hfx hgi hkm b0 b1 b2 b3 b4 b5 b6 b7 hsb hsum hsv hnk' htv hrow5 hen hvd bs h1 h2
                    go_upto_region 34 with fail
                    go_region_with (first
                     | (go_at_call 44; refine (rAdd_c _ _ _ sv nk ?_ ?_).mono ?_; exact HSN.out.after (below_dr (Below.refl _ w5)); exact HEN.out.after (below_dr (Below.refl _ w5)); rw [HSUM.out]; rintro e w7 ⟨v7, rfl, hv7, hb7⟩; have hk7 := below_of_drew hb7; have hv7 : IsF w7 v7 tv := hv7; obtain ⟨vr1, vr2, rfl, i1, i2⟩ := hv7; obtain ⟨pr, cr, rfl, _, _⟩ := i1.shape; obtain ⟨qr, dr, rfl, _, _⟩ := i2.shape; have bs7 := BS5.out.after hk7; obtain ⟨r0, r1, r2⟩ := bs7.cells3; have f0 := bs7.frozen 0; have f1 := bs7.frozen 1; have f2 := bs7.frozen 2; have hltA := bs7.lt))
                    all_goals
                      (have hg8 := grown_set3 w7 (w6.heap.size + 1) (.bool tv.neg) (.slice pr tv.num.length cr) (.slice qr tv.den.length dr)
                       have hv8 := varF_set3 bs7 (by intro x h; cases h) (by intro x h; cases h) (by intro x h; cases h) i1 i2
                       have hd7 : Dull (fun g => g = w6.heap.size + 1) w7 := by
                         obtain ⟨_, e3, e4⟩ := (HSN.out.after hk7).parts
                         exact VarF.dull ⟨_, _, bs7, e3, e4⟩
                       have hr8 := (HROW5.out.after hk7).fx ((Fx.refl (fun g => g = w6.heap.size + 1) w7).of hg8 rfl) hd7 (by omega)
                       have hf8 := (HF5.out.below hk7).of hg8 (.inr rfl)
                       have HV8 := Lib.hid hv8
                       have HR8 := Lib.hid hr8
                       have HF8 := Lib.hid hf8
                       go_upto_region 35 with fail
                       obtain ⟨W8, hW8⟩ : ∃ W8, W8 = ((w7.setCell ⟨w6.heap.size + 1, 0, none⟩ (.bool tv.neg)).setCell ⟨w6.heap.size + 1, 1, none⟩ (.slice pr tv.num.length cr)).setCell ⟨w6.heap.size + 1, 2, none⟩ (.slice qr tv.den.length dr) := ⟨_, rfl⟩
                       rw [← hW8] at HV8 HR8 HF8 ⊢
                       clear hW8 hg8 hv8 hd7 hr8 hf8 bs7 r0 r1 r2 f0 f1 f2 hk7 hb7 i1 i2 e0 e1 e2 t0' t1' t2' hltA
                       obtain ⟨_, _, _, _, e0, e1, e2, f0, f1, f2, _⟩ := HR8.out.entry hltk
                       obtain ⟨vz1, vz2, bz, g1, g2⟩ := VZ2.out.fx HF8.out DT2.out (by rintro (e | e) <;> omega)
                       obtain ⟨pz, cz', rfl, _, _⟩ := g1.shape
                       obtain ⟨qz, dz, rfl, _, _⟩ := g2.shape
                       obtain ⟨z0', z1', z2'⟩ := bz.cells3
                       have hltn := HR8.out.lt
                       have hset := Lib.hid ((HR8.out.set hltk g1 g2).cong (g := fun i => if i < k + 1 then FQ (gN R a c (r + 1) i) d else FQ (nN R a c r i) d) (fun i _ => by
                         by_cases h1 : i = k
                         · rw [if_pos h1, h1, if_pos (by omega), gN_succ, if_neg HKM.out, fq_nil HDP.out, HZ0.out]
                         · rw [if_neg h1]
                           by_cases h2 : i < k
                           · rw [if_pos h2, if_pos (by omega)]
                           · rw [if_neg h2, if_neg (by omega)]))
                       have hgr := grown_row W8 wA.heap.size k (.bool z0.neg) (.slice pz z0.num.length cz') (.slice qz z0.den.length dz)
                       have hve := Lib.hid (HV8.out.grown hgr HR8.out.noTag (by intro e; injection e with e; omega))
                       have hfe := Lib.hid (HF8.out.of hgr (.inl rfl))
                       clear bz g1 g2 hgr
                       go_wp2_with fail
                       go_roundg (N + 1 - (k + 1))
                       case measure => omega
                       case rel => exact ⟨k + 1, by omega, rfl, by go_num, hset.out, by rw [HTV.out]; exact hve.out, hfe.out⟩)
                · obtain rfl : k = N + 1 := by omega
                  have hnl2 : ¬ ((N : Int) + 1 < (N : Int) + 1) := by omega
                  have hrg' : RG R a c W9 (w6.heap.size + 1) (r + 1) wA.heap.size wr := by
                    refine ⟨?_, ?_, by omega, HFX2.out.via hfx.out (by rintro g (rfl | rfl); exact .inr hszA; exact .inl rfl)⟩
                    · rw [HD.out, ← sS_last, HNN.out]
                      exact hvs.out
                    · have hdn : (a + c) ^ N = d := by rw [← HNN.out]; exact HD.out
                      rw [HNN.out, hdn]
                      exact hrow.out.cong (fun i hi => by rw [if_pos hi])
                  have HRG' := Lib.hid hrg'
                  clear hrg' hrow hvs hfx
                  rw [show (((N + 1 : Nat) : Int)) = (N : Int) + 1 from rfl]
                  go_wp2_with fail
                  go_roundg (R.waves.length - (r + 1))
                  case measure => omega
                  case rel => exact ⟨r + 1, wA.heap.size, by omega, rfl, by rw [HNN.out], by rw [HNN.out], by go_num, HRG'.out⟩
    · obtain rfl : r = R.waves.length := by omega
      obtain ⟨hvs, hrow, hsg, hfx⟩ := hrg.out
      have hnl : ¬ ((R.waves.length : Int) < (R.waves.length : Int)) := by omega
      obtain ⟨o1, ho1⟩ : ∃ o, FQ (gS R a c R.waves.length) ((a + c) ^ cum R R.waves.length) = o := ⟨_, rfl⟩
      have hspec2 : Hid (chanceF R x = (o1, 0)) := by show _ = _; rw [hspec.out, ho1]
      rw [ho1] at hvs
      have hbo := BO9.out.fx hfx (by omega)
      obtain ⟨vs1, vs2, bs, h1, h2⟩ := hvs
      obtain ⟨ps, cs, rfl, _, _⟩ := h1.shape
      obtain ⟨qs, cqs, rfl, _, _⟩ := h2.shape
      obtain ⟨s0, s1, s2⟩ := bs.cells3
      obtain ⟨z0', z1', z2'⟩ := hbo.cells3
      have f0 := hbo.frozen 0
      have f1 := hbo.frozen 1
      have f2 := hbo.frozen 2
      have hb := HB9.out.trans (hfx.toBelow HB9.out.size (by rintro b rfl; omega))
      have hlo := hbo.lt
      have HVE := Lib.hid (varF_set3 hbo (by intro x h; cases h) (by intro x h; cases h) (by intro x h; cases h) h1 h2)
      have HBE := Lib.hid (show Below w.heap.size w (((wr.setCell ⟨w.heap.size + 2, 0, none⟩ (.bool o1.neg)).setCell ⟨w.heap.size + 2, 1, none⟩ (.slice ps o1.num.length cs)).setCell ⟨w.heap.size + 2, 2, none⟩ (.slice qs o1.den.length cqs)) from ((hb.setCell (p := ⟨w.heap.size + 2, 0, none⟩) (by simp) _).setCell (p := ⟨w.heap.size + 2, 1, none⟩) (by simp) _).setCell (p := ⟨w.heap.size + 2, 2, none⟩) (by simp) _)
      clear hfx hbo bs h1 h2 hb ho1 hrow
      go_wp2_with fail
      obtain ⟨WE, hWE⟩ : ∃ WE, WE = ((wr.setCell ⟨w.heap.size + 2, 0, none⟩ (.bool o1.neg)).setCell ⟨w.heap.size + 2, 1, none⟩ (.slice ps o1.num.length cs)).setCell ⟨w.heap.size + 2, 2, none⟩ (.slice qs o1.den.length cqs) := ⟨_, rfl⟩
      rw [← hWE] at HVE HBE
      rw [show w.heap.size + 1 + 1 = w.heap.size + 2 from rfl, ← hWE]
      clear hWE
      obtain ⟨va9, vb9, b9, h1, h2⟩ := HVE.out
      obtain ⟨e0, e1, e2⟩ := b9.cells3
      refine bodyPost_ret (v := .tuple #[.agg #[.bool o1.neg, va9, vb9], .int .i64 0]) (by simp [results, Tryz.results18, go_sem, e0, e1, e2]) rfl ?_
      rw [hspec2.out]
      exact ⟨_, rfl, ⟨va9, vb9, rfl, h1, h2⟩, HBE.out⟩

theorem rChance_c (w : World) (v u : Value) (R : Ro) (x : F) (h : IsR w v R) (hp : IsF w u x) (hbig : R.waves.length ≤ 1000000) : Calls Tryz.prog 18 #[v, u] w (RetF w (chanceF R x)) := by
  by_cases hg : ValidR R ∧ rateE x = 0
  · exact rChance_good w v u R x h hp hg.1 hg.2
  · exact rChance_bad w v u R x h hp hbig hg
end Go.Proofs.YtjjefdkadgkhfaaGreat
