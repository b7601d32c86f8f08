/- Walks of package canary: Run. -/
import Derived.Test.YtebmegodeglobaaK21
set_option linter.unusedVariables false
namespace Go.Proofs.Ytebmegodeglobaa
open Go.RowKit Go.Shelf
attribute [local go_sem] Oper.semAt_some wide_fn

set_option maxRecDepth 100000 in
set_option maxHeartbeats 16000000 in
theorem Run_c (w : World) (v u : Value) (R : Ro) (fails : List Bool) (h : IsR w v R) (k : SlB w u fails) : Calls Try.prog 8 #[v, u] w (RetDs w (runF R fails)) := by
  have HX := h
  have HY := k
  obtain ⟨p0, p1, p2, p3, p4, p5, k0, k1, k2, k3, k4, k5, rfl, h0, h1, h2, h3⟩ := h.open
  obtain ⟨p, c, rfl, hc1, hc2, _⟩ := k.shape
  obtain ⟨W0, hW, bP, bF, bD, bE, hsz, hb0⟩ : ∃ W0, W0 = (((w.alloc (.cells #[.slice p0 R.hosts.length k0, .slice p1 R.waves.length k1, .bool R.rate.neg, .slice p2 R.rate.num.length k2, .slice p3 R.rate.den.length k3, .bool R.bound.neg, .slice p4 R.bound.num.length k4, .slice p5 R.bound.den.length k5] 28)).alloc (.cells #[.slice p fails.length c] 32)).alloc (.cells #[.slice none 0 0] 42)).alloc (.cells #[.int .i64 0] 31) ∧
      Box W0 w.heap.size #[.slice p0 R.hosts.length k0, .slice p1 R.waves.length k1, .bool R.rate.neg, .slice p2 R.rate.num.length k2, .slice p3 R.rate.den.length k3, .bool R.bound.neg, .slice p4 R.bound.num.length k4, .slice p5 R.bound.den.length k5] 28 ∧ Box W0 (w.heap.size + 1) #[.slice p fails.length c] 32 ∧ Box W0 (w.heap.size + 1 + 1) #[.slice none 0 0] 42 ∧ Box W0 (w.heap.size + 1 + 1 + 1) #[.int .i64 0] 31 ∧ W0.heap.size = w.heap.size + 4 ∧ Below w.heap.size w W0 :=
    ⟨_, rfl, fourA rfl, fourB rfl, fourC rfl, fourD rfl, by simp, held_alloc (held_alloc (held_alloc (held_alloc (Below.refl _ w))))⟩
  obtain ⟨c0, c1, c2, c3, c4, c5, c6, c7⟩ := bP.cells8
  have d0 : W0.cell? ⟨w.heap.size + 1, 0, none⟩ = some (.slice p fails.length c) := bF.cell 0
  have HP := Lib.hid (HX.after hb0)
  have HF := Lib.hid (HY.after hb0)
  have HB0 := Lib.hid hb0
  have BP := Lib.hid bP
  have BF := Lib.hid bF
  have BD := Lib.hid bD
  have BE := Lib.hid bE
  obtain ⟨_, ch, eh, mh1, mh2, _⟩ := h0.shape
  have hhl : R.hosts.length ≤ 9223372036854775807 := by omega
  clear HX HY h k h0 h1 h2 h3 bP bF bD bE hb0 eh mh1 mh2 hsz
  by_cases hv : ValidR R
  · have HV := Lib.hid hv
    clear hv
    by_cases hl : fails.length = R.hosts.length
    · have h16 : R.hosts.length ≤ 16 := HV.out.2.1
      have hlen : fails.length ≤ R.hosts.length := Nat.le_of_eq hl
      have hlen' : R.hosts.length ≤ fails.length := Nat.le_of_eq hl.symm
      have hw16 := waves_le HV.out
      have hfin : Hid (runF R fails = (runD R fails 0 R.waves.length, 0)) := by show _ = _; unfold runF; rw [if_pos HV.out, if_pos hl]
      have hbl : ((fails.length : Int) != (R.hosts.length : Int)) = false := by rw [bne_eq_false_iff_eq]; omega
      clear hl
      refine callsIn_wide (n := 6).1 (callsIn_of_wp_marks Try.func8 rfl trivial (wpIn_wide.2 ?_) rfl)
      simp only [Try.ntmps8, List.size_toArray, List.length_cons, List.length_nil, Nat.reduceAdd, Nat.reduceSub, Array.replicate_succ, Array.replicate_zero, List.push_toArray, List.append_toArray, List.nil_append, List.cons_append]
      go_upto_region 1 with fail
      rw [← hW]
      clear hW
      go_wp2_with fail
      refine (cValid_c _ _ R HP.out).mono ?_
      intro e w1 hr
      obtain ⟨rfl, hb1⟩ := hr.yes HV.out
      obtain ⟨c0, c1, c2, c3, c4, c5, c6, c7⟩ := (BP.out.after hb1).cells8
      have d0 : w1.cell? ⟨w.heap.size + 1, 0, none⟩ = some (.slice p fails.length c) := (BF.out.after hb1).cell 0
      have HP1 := Lib.hid (HP.out.after hb1)
      have HF1 := Lib.hid (HF.out.after hb1)
      have BP1 := Lib.hid (BP.out.after hb1)
      have BF1 := Lib.hid (BF.out.after hb1)
      have BD1 := Lib.hid (BD.out.after hb1)
      have BE1 := Lib.hid (BE.out.after hb1)
      have HB1 := Lib.hid (HB0.out.trans (hb1.mono HB0.out.size))
      have hs1 := HB1.out.size
      have hlt1 := (BE.out.after hb1).lt
      clear hr hb1 HP HF BP BF BD BE HB0
      go_upto_region 6 with fail
      obtain ⟨w2, hw2⟩ : ∃ w2, w2 = w1.alloc (.cells #[.slice none 0 0] 42) := ⟨_, rfl⟩
      have hb2 : Below w1.heap.size w1 w2 := hw2 ▸ held_alloc (Below.refl _ w1)
      have bo : Box w2 w1.heap.size #[.slice none 0 0] 42 := hw2 ▸ Box.new w1 _ _
      have BO := Lib.hid bo
      have hlo := bo.lt
      obtain ⟨c0, c1, c2, c3, c4, c5, c6, c7⟩ := (BP1.out.after hb2).cells8
      have HP2 := Lib.hid (HP1.out.after hb2)
      have HF2 := Lib.hid (HF1.out.after hb2)
      have BF2 := Lib.hid (BF1.out.after hb2)
      have BD2 := Lib.hid (BD1.out.after hb2)
      have BE2 := Lib.hid (BE1.out.after hb2)
      have HB2 := Lib.hid (HB1.out.trans (hb2.mono HB1.out.size))
      rw [← hw2]
      clear hw2 hb2 bo HP1 HF1 BP1 BF1 BD1 BE1 HB1 d0
      go_wp2_with fail
      refine (bounds_t _ p0 p1 p2 p3 p4 p5 R.hosts.length R.waves.length R.rate.num.length R.rate.den.length R.bound.num.length R.bound.den.length k0 k1 k2 k3 k4 k5 R.rate.neg R.bound.neg).mono ?_
      rintro e w' ⟨rfl, rfl⟩
      obtain ⟨W1, hW1⟩ : ∃ W1, W1 = w2.alloc (.cells #[.slice p0 R.hosts.length k0, .slice p1 R.waves.length k1, .bool R.rate.neg, .slice p2 R.rate.num.length k2, .slice p3 R.rate.den.length k3, .bool R.bound.neg, .slice p4 R.bound.num.length k4, .slice p5 R.bound.den.length k5] 28) := ⟨_, rfl⟩
      have hb3 : Below w2.heap.size w2 W1 := hW1 ▸ held_alloc (Below.refl _ w2)
      have bx : Box W1 w2.heap.size (roCells R p0 p1 p2 p3 p4 p5 k0 k1 k2 k3 k4 k5) 28 := hW1 ▸ Box.new w2 _ _
      have IR : Hid (IsR W1 (.agg (roCells R p0 p1 p2 p3 p4 p5 k0 k1 k2 k3 k4 k5)) R) := HP2.out.after hb3
      have BX := Lib.hid bx
      have BO3 := Lib.hid (BO.out.after hb3)
      have HF3 := Lib.hid (HF2.out.after hb3)
      have BF3 := Lib.hid (BF2.out.after hb3)
      have BD3 := Lib.hid (BD2.out.after hb3)
      have BE3 := Lib.hid (BE2.out.after hb3)
      have HB3 := Lib.hid (HB2.out.trans (hb3.mono HB2.out.size))
      have hlt2 := bx.lt
      have hne : w2.heap.size ≠ w1.heap.size := by omega
      rw [← hW1]
      clear hW1 hb3 bx c0 c1 c2 c3 c4 c5 c6 c7 HP2 HF2 BF2 BD2 BE2 HB2 BO
      go_wp2_with fail
      refine' (wpIn_wide (n := 6)).1 (wpIn_range_inv (n := 6) rfl (by omega) (gf := 27) (lb := #[.pointer (some ⟨w2.heap.size, 0, none⟩)]) rfl trivial (enters_of Try.func27 (by kernel_rfl) rfl) R.waves.length (RJ R fails W1 w1.heap.size) (BndV R) (fun _ => DsAt w (w.heap.size + 1 + 1) (runF R fails))
        (by rintro r args W ⟨m, a, c, rfl, _⟩; rfl) (fun r W h => by obtain ⟨⟨_, _, _, _, _, _, _, hg⟩, _⟩ := h; exact hg.size) (fun r W W' h hb => ⟨h.1.after hb, h.2⟩) (fun r W W' l hl h hs hg => ⟨h.1.soft hs hl hg, h.2⟩) ⟨⟨none, 0, 0, [], BO3.out, ⟨rfl, .inl ⟨rfl, rfl⟩⟩, EntsD.nil _, World.grownBy.refl _ _⟩, rfl⟩
        (fun l W2 J' Y hJJ hJb hJ0 hYY => callsIn_wide.2 (bounds1_t l (6 - 1 - 1) W2 w2.heap.size R p0 p1 p2 p3 p4 p5 k0 k1 k2 k3 k4 k5 HV.out J' Y (fun r W h => by
          obtain ⟨⟨_, _, _, _, _, _, _, hg⟩, _⟩ := hJJ r W h
          exact ⟨BX.out.grown' hg (by intro e; injection e with e; exact hne e), IR.out.grownBox BO3.out (by decide) hg⟩) hJb hJ0 hYY))
        (AsB R _) ?hA ?assign ?body ?done ?stop)
      case hA =>
        rintro r args a1 W wA ⟨m, a, c, _, rfl, _⟩
        exact held_alloc (Below.refl _ W)
      case assign =>
        intro l r args W K hr hj hv hK
        obtain ⟨m, a, c, rfl, hm⟩ := hv
        have HM := Lib.hid hm
        clear hm hj
        gi_wp2
        exact AsB.mk HM.out
      case body =>
        rintro l r args W wA w3 a1 hr hj hv ⟨m, a, c', ⟨hm, hg, hsl⟩, rfl, rfl⟩ hj2 hsf hlW hgr
        obtain ⟨⟨po, no, co, es, bo3, hown, hes, hgO⟩, hrun⟩ := hj2
        have hszW : W1.heap.size ≤ W.heap.size := by obtain ⟨⟨_, _, _, _, _, _, _, hgW⟩, _⟩ := hj; exact hgW.size
        obtain ⟨q, hq⟩ : ∃ q, R.waves.length - r = q + 1 := ⟨R.waves.length - r - 1, by omega⟩
        have HQ := Lib.hid hq
        have hq2 : R.waves.length - (r + 1) = q := by omega
        have HQ2 := Lib.hid hq2
        have HRUN := Lib.hid hrun
        obtain ⟨s1, s2, s3⟩ := cum_succ HV.out hr
        have s4 := cum_le HV.out (r + 1)
        have hL := hostsOf_len HV.out hr
        have l2 : (hostsOf R (cum R r) (cum R (r + 1))).length ≤ 16 := by omega
        have bv := (Box.new W #[.int .i64 ((cum R (r + 1) : Nat) : Int), .int .i64 ((m : Int) - 1), .slice a (hostsOf R (cum R r) (cum R (r + 1))).length c'] 57).soft hsf hgr
        have BV := Lib.hid bv
        have hltv := bv.lt
        have HSL : Hid (SlI w3 (.slice a (hostsOf R (cum R r) (cum R (r + 1))).length c') (hostsOf R (cum R r) (cum R (r + 1)))) := (hsl.alloc _).soft hsf hgr
        have HOWN := Lib.hid hown
        have HES := Lib.hid hes
        have BO4 := Lib.hid bo3
        have HGO := Lib.hid hgO
        have HG := Lib.hid hg
        have hszO := hgO.size
        have hlt4 := bo3.lt
        have hcl : (fails.take (cum R (r + 1))).count true ≤ cum R (r + 1) := count_take_le _ _
        obtain ⟨i0, hi, hz0, hz1, hz2⟩ := info_parts infoD
        have hlm : maxLen = 9223372036854775807 := rfl
        have HLM := Lib.hid hlm
        clear hj hv hown hes bo3 hgO hsf hgr hg hsl hlm hq hq2 hrun bv hL s1 s3
        gi_wp2
        obtain ⟨v0, v1, v2⟩ := BV.out.cells3
        have o0 : w3.cell? ⟨w1.heap.size, 0, none⟩ = some (.slice po no co) := BO4.out.cell 0
        refine wpIn_region_any (by kernel_rfl) ?_
        change wpAnyIn _ _ _ _ _ _ _ _ _ (World.drew _)
        refine wpAnyIn_ready (rs := [0, 1]) (by kernel_rfl) (by simp) ?_
        refine AllReadyIn.cons rfl (fun K hK => ?_) ?_
        · go_simp
          refine hK _ _ ?_
          clear hK K
          refine wpAnyIn_ready (rs := [1]) (by kernel_rfl) (by simp) ?_
          refine AllReadyIn.cons rfl (fun K hK => ?_) ?_
          · go_simp
            refine hK _ _ ?_
            clear hK K
            refine wpAnyIn_ready (rs := [2]) (by kernel_rfl) (by simp) ?_
            refine AllReadyIn.cons rfl (fun K hK => ?_) ?_
            · go_simp
              refine hK _ _ ?_
              clear hK K
              refine wpAnyIn_ready (rs := [3]) (by kernel_rfl) (by simp) ?_
              refine AllReadyIn.cons rfl (fun K hK => ?_) ?_
              · go_simp
                refine (CallsIn.inRound l (callsIn_wide.2 (clone_t _ _ _ (HSL.out.after (below_dr (Below.refl _ w3))) (by omega)))).mono ?_
                rintro e w4 ⟨v4, rfl, hv4, hf4, hb4⟩
                have hk4 := below_of_drew hb4
                obtain ⟨a4, c4, rfl⟩ := hv4.shape
                have o4 : w4.cell? ⟨w1.heap.size, 0, none⟩ = some (.slice po no co) := keep_cell hk4 o0
                have hs4 := hk4.size
                have ho4 : w1.heap.size < w4.heap.size := by omega
                go_simp
                refine hK _ _ ?_
                clear hK K
                refine wpAnyIn_ready (rs := [4]) (by kernel_rfl) (by simp) ?_
                refine AllReadyIn.cons rfl (fun K hK => ?_) ?_
                · go_simp
                  refine hK _ _ ?_
                  clear hK K
                  refine wpAnyIn_ready (rs := [5]) (by kernel_rfl) (by simp) ?_
                  refine AllReadyIn.cons rfl (fun K hK => ?_) ?_
                  · go_simp
                    refine hK _ _ ?_
                    clear hK K
                    refine wpAnyIn_ready (rs := [6]) (by kernel_rfl) (by simp) ?_
                    refine AllReadyIn.cons rfl (fun K hK => ?_) ?_
                    · refine step_append_in rfl _ _ 42 rfl W1.heap.size 36 i0 (.agg #[.int .u8 0, .slice none 0 0]) 2 32 Try.underlying42 hi hz0 hz1 hz2 rfl (by decide) (.slice po no co) r (cellsD es) rfl ((ownsRow_after HOWN.out hk4).alloc _) ⟨w4.heap.size, 0, none⟩ 1 1 [.int .u8 1, .slice a4 (hostsOf R (cum R r) (cum R (r + 1))).length c4] rfl rfl cell_two (by intro u hu; simp at hu; rcases hu with rfl | rfl <;> rfl) (by rw [HLM.out]; omega) (by omega) (by simp; omega) ?_
                      intro v5 w5 hown5 hgr5
                      refine hK _ _ ?_
                      clear hK K
                      obtain ⟨b5, es5, go5, ks5, out5, kk5⟩ := OutD.push (d := ⟨1, hostsOf R (cum R r) (cum R (r + 1))⟩) (by omega) (BO4.out.after hk4) (ownsRow_after HOWN.out hk4) (HES.out.after hk4) hv4 (grown_below HGO.out hk4) hown5 hgr5
                      obtain ⟨p5', c5', rfl⟩ := ownsRow_shape hown5
                      have x0 : w5.cell? ⟨w1.heap.size, 0, none⟩ = some (.slice po no co) := b5.cell 0
                      have x1 := b5.frozen 0
                      refine wpAnyIn_ready (rs := [7]) (by kernel_rfl) (by simp) ?_
                      refine AllReadyIn.cons rfl (fun K hK => ?_) ?_
                      · go_simp
                        refine hK _ _ ?_
                        clear hK K
                        refine wpAnyIn_done (by kernel_rfl) ?_ _
                        have bv6 := OutD.far (O := w1.heap.size) (v' := .slice p5' (r + 1) c5') (ownsRow_after HOWN.out hk4) hgr5 (BV.out.after hk4) (by decide) (by omega)
                        have kk6 := (KeepSoft.of_below (B := W1.heap.size) hk4).trans kk5
                        obtain ⟨w6, hw6⟩ : ∃ w6, w6 = w5.setCell ⟨w1.heap.size, 0, none⟩ (.slice p5' (r + 1) c5') := ⟨_, rfl⟩
                        rw [← hw6] at bv6 kk6 out5 ⊢
                        rw [← wavesD_succ] at out5
                        clear hw6 hv4 hf4 hb4 hk4 o4 hown5 hgr5 b5 es5 go5 ks5 kk5 x0 x1 o0 v0 v1 v2
                        obtain ⟨p6, n6, c6', e6, b6, own6, es6, g6⟩ := out5
                        obtain ⟨v0, v1, v2⟩ := bv6.cells3
                        have HFA := Lib.hid (HF3.out.grownBox BO3.out g6)
                        have d6 : w6.cell? ⟨w.heap.size + 1, 0, none⟩ = some (.slice p fails.length c) := (BF3.out.grown' g6 (by intro e; injection e with e; omega)).cell 0
                        have BD6 := Lib.hid (BD3.out.grown' g6 (by intro e; injection e with e; omega))
                        have BE6 := Lib.hid (BE3.out.grown' g6 (by intro e; injection e with e; omega))
                        have HB6 := Lib.hid (HB3.out.grown g6 HB3.out.size (fun g e => by injection e with e; omega))
                        have B6 := Lib.hid b6
                        have OWN6 := Lib.hid own6
                        have ES6 := Lib.hid es6
                        have G6 := Lib.hid g6
                        have K6 := Lib.hid kk6
                        have hsz6 := g6.size
                        have hl6 := BE6.out.lt
                        have hlo6 := b6.lt
                        clear b6 own6 es6 g6 kk6 bv6
                        by_cases hgo : GoB R (cum R (r + 1)) (failsN fails (cum R (r + 1)))
                        · have hcm : (fails.take (cum R (r + 1))).count true < m := (HG.out _).1 hgo
                          have HRJ : Hid (∀ W, OutD W1 w1.heap.size (r + 1) (wavesD R (r + 1)) W → RJ R fails W1 w1.heap.size (r + 1) W) := fun W h => ⟨h, by rw [HRUN.out, HQ.out, HQ2.out, runD_go hgo]⟩
                          clear hgo
                          gi_wp2
                          refine wpIn_quiet_round (by kernel_rfl) (by kernel_rfl) (by kernel_rfl) ?_
                          repeat (gi_big_quiet_step ((gi_at_call 17; exact CallsIn.quiet_of_same (CallsIn.inRound l (callsIn_wide.2 (failures_c _ _ _ (HFA.out.front _ (by omega))))))))
                          refine wpQuietIn_nil ?_
                          intro _ hw'
                          obtain ⟨nq, hw''⟩ := hw'
                          subst hw''
                          obtain ⟨w7, hw7⟩ : ∃ w7, w7 = w6.drewN nq := ⟨_, rfl⟩
                          have hb7 : Below w6.heap.size w6 w7 := hw7 ▸ below_drewN w6 nq w6.heap.size
                          rw [← hw7]
                          clear hw7
                          have HO7 : Hid (OutD W1 w1.heap.size (r + 1) (wavesD R (r + 1)) w7) := OutD.after ⟨p6, n6, c6', e6, B6.out, OWN6.out, ES6.out, G6.out⟩ hb7
                          have K7 := Lib.hid (K6.out.below hb7)
                          clear hb7
                          gi_wp2
                          exact ⟨HRJ.out _ HO7.out, K7.out⟩
                        · have hcm : m ≤ (fails.take (cum R (r + 1))).count true := Nat.le_of_not_lt (fun h => hgo ((HG.out _).2 h))
                          have HX : Hid (runF R fails = (wavesD R (r + 1) ++ [⟨2, []⟩], 0)) := by show _ = _; rw [hfin.out, HRUN.out, HQ.out, runD_stop hgo]
                          clear hgo
                          gi_wp2
                          refine wpIn_quiet_round (by kernel_rfl) (by kernel_rfl) (by kernel_rfl) ?_
                          repeat (gi_big_quiet_step ((gi_at_call 17; exact CallsIn.quiet_of_same (CallsIn.inRound l (callsIn_wide.2 (failures_c _ _ _ (HFA.out.front _ (by omega))))))))
                          refine wpQuietIn_nil ?_
                          intro _ hw'
                          obtain ⟨nq, hw''⟩ := hw'
                          subst hw''
                          obtain ⟨w7, hw7⟩ : ∃ w7, w7 = w6.drewN nq := ⟨_, rfl⟩
                          have hb7 : Below w6.heap.size w6 w7 := hw7 ▸ below_drewN w6 nq w6.heap.size
                          rw [← hw7]
                          clear hw7
                          have o7 : w7.cell? ⟨w1.heap.size, 0, none⟩ = some (.slice p6 n6 c6') := (B6.out.after hb7).cell 0
                          have OWN7 := Lib.hid (ownsRow_after OWN6.out hb7)
                          have hs7 := hb7.size
                          gi_wp2_with (gi_at_builtin; refine wpListIn_append_own _ rfl _ _ 42 rfl W1.heap.size 36 i0 (.agg #[.int .u8 0, .slice none 0 0]) 2 32 Try.underlying42 hi hz0 hz1 hz2 rfl (by decide) _ _ _ rfl (OWN7.out.alloc _) ⟨w7.heap.size, 0, none⟩ 1 1 [.int .u8 2, .slice none 0 0] rfl rfl cell_two (by intro u hu; simp at hu; rcases hu with rfl | rfl <;> rfl) (by rw [HLM.out]; omega) (by omega) (by simp; omega) ?_)
                          intro v8 w8 hown8 hgr8 _
                          obtain ⟨b8, es8, go8, ks8, _, _⟩ := OutD.push (d := ⟨2, []⟩) (by omega) (B6.out.after hb7) OWN7.out (ES6.out.after hb7) (SlT.nil _) (grown_below G6.out hb7) hown8 hgr8
                          obtain ⟨p8, c8, rfl⟩ := ownsRow_shape hown8
                          have bd8 := BD3.out.grown' go8 (by intro e; injection e with e; omega)
                          have be8 := BE3.out.grown' go8 (by intro e; injection e with e; omega)
                          have hown9 : w8.ownsRow W1.heap.size 36 2 (.slice p8 (r + 1 + 1) c8) (r + 1 + 1) (cellsD (e6 ++ [(2, .slice none 0 0)])) := by rw [cellsD_snoc]; exact hown8
                          have HST := Lib.hid (ds_store (e := 0) bd8 be8 (by omega) (HB3.out.grown go8 HB3.out.size (fun g e => by injection e with e; omega)) hown9 es8 (by omega))
                          have HKP := Lib.hid (ds_keep bd8 be8 ((K6.out.below hb7).trans ks8) (.slice p8 (r + 1 + 1) c8) (.int .i64 0))
                          have r0 : w8.cell? ⟨w.heap.size + 1 + 1, 0, none⟩ = some (.slice none 0 0) := bd8.cell 0
                          have r2 : w8.cell? ⟨w.heap.size + 1 + 1 + 1, 0, none⟩ = some (.int .i64 0) := be8.cell 0
                          have f0 := bd8.frozen 0
                          have f2 := be8.frozen 0
                          clear hown8 hown9 hgr8 b8 es8 go8 ks8 bd8 be8 hb7 o7
                          gi_wp2
                          refine ⟨?_, HKP.out⟩
                          rw [HX.out]
                          exact HST.out
                      exact AllReadyIn.nil
                    exact AllReadyIn.nil
                  exact AllReadyIn.nil
                exact AllReadyIn.nil
              exact AllReadyIn.nil
            exact AllReadyIn.nil
          exact AllReadyIn.nil
        refine AllReadyIn.cons rfl (fun K hK => ?_) ?_
        · go_simp
          refine hK _ _ ?_
          clear hK K
          refine wpAnyIn_ready (rs := [0, 2]) (by kernel_rfl) (by simp) ?_
          refine AllReadyIn.cons rfl (fun K hK => ?_) ?_
          · go_simp
            refine hK _ _ ?_
            clear hK K
            refine wpAnyIn_ready (rs := [2]) (by kernel_rfl) (by simp) ?_
            refine AllReadyIn.cons rfl (fun K hK => ?_) ?_
            · go_simp
              refine hK _ _ ?_
              clear hK K
              refine wpAnyIn_ready (rs := [3]) (by kernel_rfl) (by simp) ?_
              refine AllReadyIn.cons rfl (fun K hK => ?_) ?_
              · go_simp
                refine (CallsIn.inRound l (callsIn_wide.2 (clone_t _ _ _ (HSL.out.after (below_dr (Below.refl _ w3))) (by omega)))).mono ?_
                rintro e w4 ⟨v4, rfl, hv4, hf4, hb4⟩
                have hk4 := below_of_drew hb4
                obtain ⟨a4, c4, rfl⟩ := hv4.shape
                have o4 : w4.cell? ⟨w1.heap.size, 0, none⟩ = some (.slice po no co) := keep_cell hk4 o0
                have hs4 := hk4.size
                have ho4 : w1.heap.size < w4.heap.size := by omega
                go_simp
                refine hK _ _ ?_
                clear hK K
                refine wpAnyIn_ready (rs := [4]) (by kernel_rfl) (by simp) ?_
                refine AllReadyIn.cons rfl (fun K hK => ?_) ?_
                · go_simp
                  refine hK _ _ ?_
                  clear hK K
                  refine wpAnyIn_ready (rs := [5]) (by kernel_rfl) (by simp) ?_
                  refine AllReadyIn.cons rfl (fun K hK => ?_) ?_
                  · go_simp
                    refine hK _ _ ?_
                    clear hK K
                    refine wpAnyIn_ready (rs := [6]) (by kernel_rfl) (by simp) ?_
                    refine AllReadyIn.cons rfl (fun K hK => ?_) ?_
                    · refine step_append_in rfl _ _ 42 rfl W1.heap.size 36 i0 (.agg #[.int .u8 0, .slice none 0 0]) 2 32 Try.underlying42 hi hz0 hz1 hz2 rfl (by decide) (.slice po no co) r (cellsD es) rfl ((ownsRow_after HOWN.out hk4).alloc _) ⟨w4.heap.size, 0, none⟩ 1 1 [.int .u8 1, .slice a4 (hostsOf R (cum R r) (cum R (r + 1))).length c4] rfl rfl cell_two (by intro u hu; simp at hu; rcases hu with rfl | rfl <;> rfl) (by rw [HLM.out]; omega) (by omega) (by simp; omega) ?_
                      intro v5 w5 hown5 hgr5
                      refine hK _ _ ?_
                      clear hK K
                      obtain ⟨b5, es5, go5, ks5, out5, kk5⟩ := OutD.push (d := ⟨1, hostsOf R (cum R r) (cum R (r + 1))⟩) (by omega) (BO4.out.after hk4) (ownsRow_after HOWN.out hk4) (HES.out.after hk4) hv4 (grown_below HGO.out hk4) hown5 hgr5
                      obtain ⟨p5', c5', rfl⟩ := ownsRow_shape hown5
                      have x0 : w5.cell? ⟨w1.heap.size, 0, none⟩ = some (.slice po no co) := b5.cell 0
                      have x1 := b5.frozen 0
                      refine wpAnyIn_ready (rs := [7]) (by kernel_rfl) (by simp) ?_
                      refine AllReadyIn.cons rfl (fun K hK => ?_) ?_
                      · go_simp
                        refine hK _ _ ?_
                        clear hK K
                        refine wpAnyIn_done (by kernel_rfl) ?_ _
                        have bv6 := OutD.far (O := w1.heap.size) (v' := .slice p5' (r + 1) c5') (ownsRow_after HOWN.out hk4) hgr5 (BV.out.after hk4) (by decide) (by omega)
                        have kk6 := (KeepSoft.of_below (B := W1.heap.size) hk4).trans kk5
                        obtain ⟨w6, hw6⟩ : ∃ w6, w6 = w5.setCell ⟨w1.heap.size, 0, none⟩ (.slice p5' (r + 1) c5') := ⟨_, rfl⟩
                        rw [← hw6] at bv6 kk6 out5 ⊢
                        rw [← wavesD_succ] at out5
                        clear hw6 hv4 hf4 hb4 hk4 o4 hown5 hgr5 b5 es5 go5 ks5 kk5 x0 x1 o0 v0 v1 v2
                        obtain ⟨p6, n6, c6', e6, b6, own6, es6, g6⟩ := out5
                        obtain ⟨v0, v1, v2⟩ := bv6.cells3
                        have HFA := Lib.hid (HF3.out.grownBox BO3.out g6)
                        have d6 : w6.cell? ⟨w.heap.size + 1, 0, none⟩ = some (.slice p fails.length c) := (BF3.out.grown' g6 (by intro e; injection e with e; omega)).cell 0
                        have BD6 := Lib.hid (BD3.out.grown' g6 (by intro e; injection e with e; omega))
                        have BE6 := Lib.hid (BE3.out.grown' g6 (by intro e; injection e with e; omega))
                        have HB6 := Lib.hid (HB3.out.grown g6 HB3.out.size (fun g e => by injection e with e; omega))
                        have B6 := Lib.hid b6
                        have OWN6 := Lib.hid own6
                        have ES6 := Lib.hid es6
                        have G6 := Lib.hid g6
                        have K6 := Lib.hid kk6
                        have hsz6 := g6.size
                        have hl6 := BE6.out.lt
                        have hlo6 := b6.lt
                        clear b6 own6 es6 g6 kk6 bv6
                        by_cases hgo : GoB R (cum R (r + 1)) (failsN fails (cum R (r + 1)))
                        · have hcm : (fails.take (cum R (r + 1))).count true < m := (HG.out _).1 hgo
                          have HRJ : Hid (∀ W, OutD W1 w1.heap.size (r + 1) (wavesD R (r + 1)) W → RJ R fails W1 w1.heap.size (r + 1) W) := fun W h => ⟨h, by rw [HRUN.out, HQ.out, HQ2.out, runD_go hgo]⟩
                          clear hgo
                          gi_wp2
                          refine wpIn_quiet_round (by kernel_rfl) (by kernel_rfl) (by kernel_rfl) ?_
                          repeat (gi_big_quiet_step ((gi_at_call 17; exact CallsIn.quiet_of_same (CallsIn.inRound l (callsIn_wide.2 (failures_c _ _ _ (HFA.out.front _ (by omega))))))))
                          refine wpQuietIn_nil ?_
                          intro _ hw'
                          obtain ⟨nq, hw''⟩ := hw'
                          subst hw''
                          obtain ⟨w7, hw7⟩ : ∃ w7, w7 = w6.drewN nq := ⟨_, rfl⟩
                          have hb7 : Below w6.heap.size w6 w7 := hw7 ▸ below_drewN w6 nq w6.heap.size
                          rw [← hw7]
                          clear hw7
                          have HO7 : Hid (OutD W1 w1.heap.size (r + 1) (wavesD R (r + 1)) w7) := OutD.after ⟨p6, n6, c6', e6, B6.out, OWN6.out, ES6.out, G6.out⟩ hb7
                          have K7 := Lib.hid (K6.out.below hb7)
                          clear hb7
                          gi_wp2
                          exact ⟨HRJ.out _ HO7.out, K7.out⟩
                        · have hcm : m ≤ (fails.take (cum R (r + 1))).count true := Nat.le_of_not_lt (fun h => hgo ((HG.out _).2 h))
                          have HX : Hid (runF R fails = (wavesD R (r + 1) ++ [⟨2, []⟩], 0)) := by show _ = _; rw [hfin.out, HRUN.out, HQ.out, runD_stop hgo]
                          clear hgo
                          gi_wp2
                          refine wpIn_quiet_round (by kernel_rfl) (by kernel_rfl) (by kernel_rfl) ?_
                          repeat (gi_big_quiet_step ((gi_at_call 17; exact CallsIn.quiet_of_same (CallsIn.inRound l (callsIn_wide.2 (failures_c _ _ _ (HFA.out.front _ (by omega))))))))
                          refine wpQuietIn_nil ?_
                          intro _ hw'
                          obtain ⟨nq, hw''⟩ := hw'
                          subst hw''
                          obtain ⟨w7, hw7⟩ : ∃ w7, w7 = w6.drewN nq := ⟨_, rfl⟩
                          have hb7 : Below w6.heap.size w6 w7 := hw7 ▸ below_drewN w6 nq w6.heap.size
                          rw [← hw7]
                          clear hw7
                          have o7 : w7.cell? ⟨w1.heap.size, 0, none⟩ = some (.slice p6 n6 c6') := (B6.out.after hb7).cell 0
                          have OWN7 := Lib.hid (ownsRow_after OWN6.out hb7)
                          have hs7 := hb7.size
                          gi_wp2_with (gi_at_builtin; refine wpListIn_append_own _ rfl _ _ 42 rfl W1.heap.size 36 i0 (.agg #[.int .u8 0, .slice none 0 0]) 2 32 Try.underlying42 hi hz0 hz1 hz2 rfl (by decide) _ _ _ rfl (OWN7.out.alloc _) ⟨w7.heap.size, 0, none⟩ 1 1 [.int .u8 2, .slice none 0 0] rfl rfl cell_two (by intro u hu; simp at hu; rcases hu with rfl | rfl <;> rfl) (by rw [HLM.out]; omega) (by omega) (by simp; omega) ?_)
                          intro v8 w8 hown8 hgr8 _
                          obtain ⟨b8, es8, go8, ks8, _, _⟩ := OutD.push (d := ⟨2, []⟩) (by omega) (B6.out.after hb7) OWN7.out (ES6.out.after hb7) (SlT.nil _) (grown_below G6.out hb7) hown8 hgr8
                          obtain ⟨p8, c8, rfl⟩ := ownsRow_shape hown8
                          have bd8 := BD3.out.grown' go8 (by intro e; injection e with e; omega)
                          have be8 := BE3.out.grown' go8 (by intro e; injection e with e; omega)
                          have hown9 : w8.ownsRow W1.heap.size 36 2 (.slice p8 (r + 1 + 1) c8) (r + 1 + 1) (cellsD (e6 ++ [(2, .slice none 0 0)])) := by rw [cellsD_snoc]; exact hown8
                          have HST := Lib.hid (ds_store (e := 0) bd8 be8 (by omega) (HB3.out.grown go8 HB3.out.size (fun g e => by injection e with e; omega)) hown9 es8 (by omega))
                          have HKP := Lib.hid (ds_keep bd8 be8 ((K6.out.below hb7).trans ks8) (.slice p8 (r + 1 + 1) c8) (.int .i64 0))
                          have r0 : w8.cell? ⟨w.heap.size + 1 + 1, 0, none⟩ = some (.slice none 0 0) := bd8.cell 0
                          have r2 : w8.cell? ⟨w.heap.size + 1 + 1 + 1, 0, none⟩ = some (.int .i64 0) := be8.cell 0
                          have f0 := bd8.frozen 0
                          have f2 := be8.frozen 0
                          clear hown8 hown9 hgr8 b8 es8 go8 ks8 bd8 be8 hb7 o7
                          gi_wp2
                          refine ⟨?_, HKP.out⟩
                          rw [HX.out]
                          exact HST.out
                      exact AllReadyIn.nil
                    exact AllReadyIn.nil
                  exact AllReadyIn.nil
                exact AllReadyIn.nil
              exact AllReadyIn.nil
            exact AllReadyIn.nil
          refine AllReadyIn.cons rfl (fun K hK => ?_) ?_
          · go_simp
            refine hK _ _ ?_
            clear hK K
            refine wpAnyIn_ready (rs := [0, 3]) (by kernel_rfl) (by simp) ?_
            refine AllReadyIn.cons rfl (fun K hK => ?_) ?_
            · go_simp
              refine hK _ _ ?_
              clear hK K
              refine wpAnyIn_ready (rs := [3]) (by kernel_rfl) (by simp) ?_
              refine AllReadyIn.cons rfl (fun K hK => ?_) ?_
              · go_simp
                refine (CallsIn.inRound l (callsIn_wide.2 (clone_t _ _ _ (HSL.out.after (below_dr (Below.refl _ w3))) (by omega)))).mono ?_
                rintro e w4 ⟨v4, rfl, hv4, hf4, hb4⟩
                have hk4 := below_of_drew hb4
                obtain ⟨a4, c4, rfl⟩ := hv4.shape
                have o4 : w4.cell? ⟨w1.heap.size, 0, none⟩ = some (.slice po no co) := keep_cell hk4 o0
                have hs4 := hk4.size
                have ho4 : w1.heap.size < w4.heap.size := by omega
                go_simp
                refine hK _ _ ?_
                clear hK K
                refine wpAnyIn_ready (rs := [4]) (by kernel_rfl) (by simp) ?_
                refine AllReadyIn.cons rfl (fun K hK => ?_) ?_
                · go_simp
                  refine hK _ _ ?_
                  clear hK K
                  refine wpAnyIn_ready (rs := [5]) (by kernel_rfl) (by simp) ?_
                  refine AllReadyIn.cons rfl (fun K hK => ?_) ?_
                  · go_simp
                    refine hK _ _ ?_
                    clear hK K
                    refine wpAnyIn_ready (rs := [6]) (by kernel_rfl) (by simp) ?_
                    refine AllReadyIn.cons rfl (fun K hK => ?_) ?_
                    · refine step_append_in rfl _ _ 42 rfl W1.heap.size 36 i0 (.agg #[.int .u8 0, .slice none 0 0]) 2 32 Try.underlying42 hi hz0 hz1 hz2 rfl (by decide) (.slice po no co) r (cellsD es) rfl ((ownsRow_after HOWN.out hk4).alloc _) ⟨w4.heap.size, 0, none⟩ 1 1 [.int .u8 1, .slice a4 (hostsOf R (cum R r) (cum R (r + 1))).length c4] rfl rfl cell_two (by intro u hu; simp at hu; rcases hu with rfl | rfl <;> rfl) (by rw [HLM.out]; omega) (by omega) (by simp; omega) ?_
                      intro v5 w5 hown5 hgr5
                      refine hK _ _ ?_
                      clear hK K
                      obtain ⟨b5, es5, go5, ks5, out5, kk5⟩ := OutD.push (d := ⟨1, hostsOf R (cum R r) (cum R (r + 1))⟩) (by omega) (BO4.out.after hk4) (ownsRow_after HOWN.out hk4) (HES.out.after hk4) hv4 (grown_below HGO.out hk4) hown5 hgr5
                      obtain ⟨p5', c5', rfl⟩ := ownsRow_shape hown5
                      have x0 : w5.cell? ⟨w1.heap.size, 0, none⟩ = some (.slice po no co) := b5.cell 0
                      have x1 := b5.frozen 0
                      refine wpAnyIn_ready (rs := [7]) (by kernel_rfl) (by simp) ?_
                      refine AllReadyIn.cons rfl (fun K hK => ?_) ?_
                      · go_simp
                        refine hK _ _ ?_
                        clear hK K
                        refine wpAnyIn_done (by kernel_rfl) ?_ _
                        have bv6 := OutD.far (O := w1.heap.size) (v' := .slice p5' (r + 1) c5') (ownsRow_after HOWN.out hk4) hgr5 (BV.out.after hk4) (by decide) (by omega)
                        have kk6 := (KeepSoft.of_below (B := W1.heap.size) hk4).trans kk5
                        obtain ⟨w6, hw6⟩ : ∃ w6, w6 = w5.setCell ⟨w1.heap.size, 0, none⟩ (.slice p5' (r + 1) c5') := ⟨_, rfl⟩
                        rw [← hw6] at bv6 kk6 out5 ⊢
                        rw [← wavesD_succ] at out5
                        clear hw6 hv4 hf4 hb4 hk4 o4 hown5 hgr5 b5 es5 go5 ks5 kk5 x0 x1 o0 v0 v1 v2
                        obtain ⟨p6, n6, c6', e6, b6, own6, es6, g6⟩ := out5
                        obtain ⟨v0, v1, v2⟩ := bv6.cells3
                        have HFA := Lib.hid (HF3.out.grownBox BO3.out g6)
                        have d6 : w6.cell? ⟨w.heap.size + 1, 0, none⟩ = some (.slice p fails.length c) := (BF3.out.grown' g6 (by intro e; injection e with e; omega)).cell 0
                        have BD6 := Lib.hid (BD3.out.grown' g6 (by intro e; injection e with e; omega))
                        have BE6 := Lib.hid (BE3.out.grown' g6 (by intro e; injection e with e; omega))
                        have HB6 := Lib.hid (HB3.out.grown g6 HB3.out.size (fun g e => by injection e with e; omega))
                        have B6 := Lib.hid b6
                        have OWN6 := Lib.hid own6
                        have ES6 := Lib.hid es6
                        have G6 := Lib.hid g6
                        have K6 := Lib.hid kk6
                        have hsz6 := g6.size
                        have hl6 := BE6.out.lt
                        have hlo6 := b6.lt
                        clear b6 own6 es6 g6 kk6 bv6
                        by_cases hgo : GoB R (cum R (r + 1)) (failsN fails (cum R (r + 1)))
                        · have hcm : (fails.take (cum R (r + 1))).count true < m := (HG.out _).1 hgo
                          have HRJ : Hid (∀ W, OutD W1 w1.heap.size (r + 1) (wavesD R (r + 1)) W → RJ R fails W1 w1.heap.size (r + 1) W) := fun W h => ⟨h, by rw [HRUN.out, HQ.out, HQ2.out, runD_go hgo]⟩
                          clear hgo
                          gi_wp2
                          refine wpIn_quiet_round (by kernel_rfl) (by kernel_rfl) (by kernel_rfl) ?_
                          repeat (gi_big_quiet_step ((gi_at_call 17; exact CallsIn.quiet_of_same (CallsIn.inRound l (callsIn_wide.2 (failures_c _ _ _ (HFA.out.front _ (by omega))))))))
                          refine wpQuietIn_nil ?_
                          intro _ hw'
                          obtain ⟨nq, hw''⟩ := hw'
                          subst hw''
                          obtain ⟨w7, hw7⟩ : ∃ w7, w7 = w6.drewN nq := ⟨_, rfl⟩
                          have hb7 : Below w6.heap.size w6 w7 := hw7 ▸ below_drewN w6 nq w6.heap.size
                          rw [← hw7]
                          clear hw7
                          have HO7 : Hid (OutD W1 w1.heap.size (r + 1) (wavesD R (r + 1)) w7) := OutD.after ⟨p6, n6, c6', e6, B6.out, OWN6.out, ES6.out, G6.out⟩ hb7
                          have K7 := Lib.hid (K6.out.below hb7)
                          clear hb7
                          gi_wp2
                          exact ⟨HRJ.out _ HO7.out, K7.out⟩
                        · have hcm : m ≤ (fails.take (cum R (r + 1))).count true := Nat.le_of_not_lt (fun h => hgo ((HG.out _).2 h))
                          have HX : Hid (runF R fails = (wavesD R (r + 1) ++ [⟨2, []⟩], 0)) := by show _ = _; rw [hfin.out, HRUN.out, HQ.out, runD_stop hgo]
                          clear hgo
                          gi_wp2
                          refine wpIn_quiet_round (by kernel_rfl) (by kernel_rfl) (by kernel_rfl) ?_
                          repeat (gi_big_quiet_step ((gi_at_call 17; exact CallsIn.quiet_of_same (CallsIn.inRound l (callsIn_wide.2 (failures_c _ _ _ (HFA.out.front _ (by omega))))))))
                          refine wpQuietIn_nil ?_
                          intro _ hw'
                          obtain ⟨nq, hw''⟩ := hw'
                          subst hw''
                          obtain ⟨w7, hw7⟩ : ∃ w7, w7 = w6.drewN nq := ⟨_, rfl⟩
                          have hb7 : Below w6.heap.size w6 w7 := hw7 ▸ below_drewN w6 nq w6.heap.size
                          rw [← hw7]
                          clear hw7
                          have o7 : w7.cell? ⟨w1.heap.size, 0, none⟩ = some (.slice p6 n6 c6') := (B6.out.after hb7).cell 0
                          have OWN7 := Lib.hid (ownsRow_after OWN6.out hb7)
                          have hs7 := hb7.size
                          gi_wp2_with (gi_at_builtin; refine wpListIn_append_own _ rfl _ _ 42 rfl W1.heap.size 36 i0 (.agg #[.int .u8 0, .slice none 0 0]) 2 32 Try.underlying42 hi hz0 hz1 hz2 rfl (by decide) _ _ _ rfl (OWN7.out.alloc _) ⟨w7.heap.size, 0, none⟩ 1 1 [.int .u8 2, .slice none 0 0] rfl rfl cell_two (by intro u hu; simp at hu; rcases hu with rfl | rfl <;> rfl) (by rw [HLM.out]; omega) (by omega) (by simp; omega) ?_)
                          intro v8 w8 hown8 hgr8 _
                          obtain ⟨b8, es8, go8, ks8, _, _⟩ := OutD.push (d := ⟨2, []⟩) (by omega) (B6.out.after hb7) OWN7.out (ES6.out.after hb7) (SlT.nil _) (grown_below G6.out hb7) hown8 hgr8
                          obtain ⟨p8, c8, rfl⟩ := ownsRow_shape hown8
                          have bd8 := BD3.out.grown' go8 (by intro e; injection e with e; omega)
                          have be8 := BE3.out.grown' go8 (by intro e; injection e with e; omega)
                          have hown9 : w8.ownsRow W1.heap.size 36 2 (.slice p8 (r + 1 + 1) c8) (r + 1 + 1) (cellsD (e6 ++ [(2, .slice none 0 0)])) := by rw [cellsD_snoc]; exact hown8
                          have HST := Lib.hid (ds_store (e := 0) bd8 be8 (by omega) (HB3.out.grown go8 HB3.out.size (fun g e => by injection e with e; omega)) hown9 es8 (by omega))
                          have HKP := Lib.hid (ds_keep bd8 be8 ((K6.out.below hb7).trans ks8) (.slice p8 (r + 1 + 1) c8) (.int .i64 0))
                          have r0 : w8.cell? ⟨w.heap.size + 1 + 1, 0, none⟩ = some (.slice none 0 0) := bd8.cell 0
                          have r2 : w8.cell? ⟨w.heap.size + 1 + 1 + 1, 0, none⟩ = some (.int .i64 0) := be8.cell 0
                          have f0 := bd8.frozen 0
                          have f2 := be8.frozen 0
                          clear hown8 hown9 hgr8 b8 es8 go8 ks8 bd8 be8 hb7 o7
                          gi_wp2
                          refine ⟨?_, HKP.out⟩
                          rw [HX.out]
                          exact HST.out
                      exact AllReadyIn.nil
                    exact AllReadyIn.nil
                  exact AllReadyIn.nil
                exact AllReadyIn.nil
              exact AllReadyIn.nil
            refine AllReadyIn.cons rfl (fun K hK => ?_) ?_
            · go_simp
              refine (CallsIn.inRound l (callsIn_wide.2 (clone_t _ _ _ (HSL.out.after (below_dr (Below.refl _ w3))) (by omega)))).mono ?_
              rintro e w4 ⟨v4, rfl, hv4, hf4, hb4⟩
              have hk4 := below_of_drew hb4
              obtain ⟨a4, c4, rfl⟩ := hv4.shape
              have o4 : w4.cell? ⟨w1.heap.size, 0, none⟩ = some (.slice po no co) := keep_cell hk4 o0
              have hs4 := hk4.size
              have ho4 : w1.heap.size < w4.heap.size := by omega
              go_simp
              refine hK _ _ ?_
              clear hK K
              refine wpAnyIn_ready (rs := [0, 4]) (by kernel_rfl) (by simp) ?_
              refine AllReadyIn.cons rfl (fun K hK => ?_) ?_
              · go_simp
                refine hK _ _ ?_
                clear hK K
                refine wpAnyIn_ready (rs := [4]) (by kernel_rfl) (by simp) ?_
                refine AllReadyIn.cons rfl (fun K hK => ?_) ?_
                · go_simp
                  refine hK _ _ ?_
                  clear hK K
                  refine wpAnyIn_ready (rs := [5]) (by kernel_rfl) (by simp) ?_
                  refine AllReadyIn.cons rfl (fun K hK => ?_) ?_
                  · go_simp
                    refine hK _ _ ?_
                    clear hK K
                    refine wpAnyIn_ready (rs := [6]) (by kernel_rfl) (by simp) ?_
                    refine AllReadyIn.cons rfl (fun K hK => ?_) ?_
                    · refine step_append_in rfl _ _ 42 rfl W1.heap.size 36 i0 (.agg #[.int .u8 0, .slice none 0 0]) 2 32 Try.underlying42 hi hz0 hz1 hz2 rfl (by decide) (.slice po no co) r (cellsD es) rfl ((ownsRow_after HOWN.out hk4).alloc _) ⟨w4.heap.size, 0, none⟩ 1 1 [.int .u8 1, .slice a4 (hostsOf R (cum R r) (cum R (r + 1))).length c4] rfl rfl cell_two (by intro u hu; simp at hu; rcases hu with rfl | rfl <;> rfl) (by rw [HLM.out]; omega) (by omega) (by simp; omega) ?_
                      intro v5 w5 hown5 hgr5
                      refine hK _ _ ?_
                      clear hK K
                      obtain ⟨b5, es5, go5, ks5, out5, kk5⟩ := OutD.push (d := ⟨1, hostsOf R (cum R r) (cum R (r + 1))⟩) (by omega) (BO4.out.after hk4) (ownsRow_after HOWN.out hk4) (HES.out.after hk4) hv4 (grown_below HGO.out hk4) hown5 hgr5
                      obtain ⟨p5', c5', rfl⟩ := ownsRow_shape hown5
                      have x0 : w5.cell? ⟨w1.heap.size, 0, none⟩ = some (.slice po no co) := b5.cell 0
                      have x1 := b5.frozen 0
                      refine wpAnyIn_ready (rs := [7]) (by kernel_rfl) (by simp) ?_
                      refine AllReadyIn.cons rfl (fun K hK => ?_) ?_
                      · go_simp
                        refine hK _ _ ?_
                        clear hK K
                        refine wpAnyIn_done (by kernel_rfl) ?_ _
                        have bv6 := OutD.far (O := w1.heap.size) (v' := .slice p5' (r + 1) c5') (ownsRow_after HOWN.out hk4) hgr5 (BV.out.after hk4) (by decide) (by omega)
                        have kk6 := (KeepSoft.of_below (B := W1.heap.size) hk4).trans kk5
                        obtain ⟨w6, hw6⟩ : ∃ w6, w6 = w5.setCell ⟨w1.heap.size, 0, none⟩ (.slice p5' (r + 1) c5') := ⟨_, rfl⟩
                        rw [← hw6] at bv6 kk6 out5 ⊢
                        rw [← wavesD_succ] at out5
                        clear hw6 hv4 hf4 hb4 hk4 o4 hown5 hgr5 b5 es5 go5 ks5 kk5 x0 x1 o0 v0 v1 v2
                        obtain ⟨p6, n6, c6', e6, b6, own6, es6, g6⟩ := out5
                        obtain ⟨v0, v1, v2⟩ := bv6.cells3
                        have HFA := Lib.hid (HF3.out.grownBox BO3.out g6)
                        have d6 : w6.cell? ⟨w.heap.size + 1, 0, none⟩ = some (.slice p fails.length c) := (BF3.out.grown' g6 (by intro e; injection e with e; omega)).cell 0
                        have BD6 := Lib.hid (BD3.out.grown' g6 (by intro e; injection e with e; omega))
                        have BE6 := Lib.hid (BE3.out.grown' g6 (by intro e; injection e with e; omega))
                        have HB6 := Lib.hid (HB3.out.grown g6 HB3.out.size (fun g e => by injection e with e; omega))
                        have B6 := Lib.hid b6
                        have OWN6 := Lib.hid own6
                        have ES6 := Lib.hid es6
                        have G6 := Lib.hid g6
                        have K6 := Lib.hid kk6
                        have hsz6 := g6.size
                        have hl6 := BE6.out.lt
                        have hlo6 := b6.lt
                        clear b6 own6 es6 g6 kk6 bv6
                        by_cases hgo : GoB R (cum R (r + 1)) (failsN fails (cum R (r + 1)))
                        · have hcm : (fails.take (cum R (r + 1))).count true < m := (HG.out _).1 hgo
                          have HRJ : Hid (∀ W, OutD W1 w1.heap.size (r + 1) (wavesD R (r + 1)) W → RJ R fails W1 w1.heap.size (r + 1) W) := fun W h => ⟨h, by rw [HRUN.out, HQ.out, HQ2.out, runD_go hgo]⟩
                          clear hgo
                          gi_wp2
                          refine wpIn_quiet_round (by kernel_rfl) (by kernel_rfl) (by kernel_rfl) ?_
                          repeat (gi_big_quiet_step ((gi_at_call 17; exact CallsIn.quiet_of_same (CallsIn.inRound l (callsIn_wide.2 (failures_c _ _ _ (HFA.out.front _ (by omega))))))))
                          refine wpQuietIn_nil ?_
                          intro _ hw'
                          obtain ⟨nq, hw''⟩ := hw'
                          subst hw''
                          obtain ⟨w7, hw7⟩ : ∃ w7, w7 = w6.drewN nq := ⟨_, rfl⟩
                          have hb7 : Below w6.heap.size w6 w7 := hw7 ▸ below_drewN w6 nq w6.heap.size
                          rw [← hw7]
                          clear hw7
                          have HO7 : Hid (OutD W1 w1.heap.size (r + 1) (wavesD R (r + 1)) w7) := OutD.after ⟨p6, n6, c6', e6, B6.out, OWN6.out, ES6.out, G6.out⟩ hb7
                          have K7 := Lib.hid (K6.out.below hb7)
                          clear hb7
                          gi_wp2
                          exact ⟨HRJ.out _ HO7.out, K7.out⟩
                        · have hcm : m ≤ (fails.take (cum R (r + 1))).count true := Nat.le_of_not_lt (fun h => hgo ((HG.out _).2 h))
                          have HX : Hid (runF R fails = (wavesD R (r + 1) ++ [⟨2, []⟩], 0)) := by show _ = _; rw [hfin.out, HRUN.out, HQ.out, runD_stop hgo]
                          clear hgo
                          gi_wp2
                          refine wpIn_quiet_round (by kernel_rfl) (by kernel_rfl) (by kernel_rfl) ?_
                          repeat (gi_big_quiet_step ((gi_at_call 17; exact CallsIn.quiet_of_same (CallsIn.inRound l (callsIn_wide.2 (failures_c _ _ _ (HFA.out.front _ (by omega))))))))
                          refine wpQuietIn_nil ?_
                          intro _ hw'
                          obtain ⟨nq, hw''⟩ := hw'
                          subst hw''
                          obtain ⟨w7, hw7⟩ : ∃ w7, w7 = w6.drewN nq := ⟨_, rfl⟩
                          have hb7 : Below w6.heap.size w6 w7 := hw7 ▸ below_drewN w6 nq w6.heap.size
                          rw [← hw7]
                          clear hw7
                          have o7 : w7.cell? ⟨w1.heap.size, 0, none⟩ = some (.slice p6 n6 c6') := (B6.out.after hb7).cell 0
                          have OWN7 := Lib.hid (ownsRow_after OWN6.out hb7)
                          have hs7 := hb7.size
                          gi_wp2_with (gi_at_builtin; refine wpListIn_append_own _ rfl _ _ 42 rfl W1.heap.size 36 i0 (.agg #[.int .u8 0, .slice none 0 0]) 2 32 Try.underlying42 hi hz0 hz1 hz2 rfl (by decide) _ _ _ rfl (OWN7.out.alloc _) ⟨w7.heap.size, 0, none⟩ 1 1 [.int .u8 2, .slice none 0 0] rfl rfl cell_two (by intro u hu; simp at hu; rcases hu with rfl | rfl <;> rfl) (by rw [HLM.out]; omega) (by omega) (by simp; omega) ?_)
                          intro v8 w8 hown8 hgr8 _
                          obtain ⟨b8, es8, go8, ks8, _, _⟩ := OutD.push (d := ⟨2, []⟩) (by omega) (B6.out.after hb7) OWN7.out (ES6.out.after hb7) (SlT.nil _) (grown_below G6.out hb7) hown8 hgr8
                          obtain ⟨p8, c8, rfl⟩ := ownsRow_shape hown8
                          have bd8 := BD3.out.grown' go8 (by intro e; injection e with e; omega)
                          have be8 := BE3.out.grown' go8 (by intro e; injection e with e; omega)
                          have hown9 : w8.ownsRow W1.heap.size 36 2 (.slice p8 (r + 1 + 1) c8) (r + 1 + 1) (cellsD (e6 ++ [(2, .slice none 0 0)])) := by rw [cellsD_snoc]; exact hown8
                          have HST := Lib.hid (ds_store (e := 0) bd8 be8 (by omega) (HB3.out.grown go8 HB3.out.size (fun g e => by injection e with e; omega)) hown9 es8 (by omega))
                          have HKP := Lib.hid (ds_keep bd8 be8 ((K6.out.below hb7).trans ks8) (.slice p8 (r + 1 + 1) c8) (.int .i64 0))
                          have r0 : w8.cell? ⟨w.heap.size + 1 + 1, 0, none⟩ = some (.slice none 0 0) := bd8.cell 0
                          have r2 : w8.cell? ⟨w.heap.size + 1 + 1 + 1, 0, none⟩ = some (.int .i64 0) := be8.cell 0
                          have f0 := bd8.frozen 0
                          have f2 := be8.frozen 0
                          clear hown8 hown9 hgr8 b8 es8 go8 ks8 bd8 be8 hb7 o7
                          gi_wp2
                          refine ⟨?_, HKP.out⟩
                          rw [HX.out]
                          exact HST.out
                      exact AllReadyIn.nil
                    exact AllReadyIn.nil
                  exact AllReadyIn.nil
                exact AllReadyIn.nil
              refine AllReadyIn.cons rfl (fun K hK => ?_) ?_
              · go_simp
                refine hK _ _ ?_
                clear hK K
                refine wpAnyIn_ready (rs := [0, 5]) (by kernel_rfl) (by simp) ?_
                refine AllReadyIn.cons rfl (fun K hK => ?_) ?_
                · go_simp
                  refine hK _ _ ?_
                  clear hK K
                  refine wpAnyIn_ready (rs := [5]) (by kernel_rfl) (by simp) ?_
                  refine AllReadyIn.cons rfl (fun K hK => ?_) ?_
                  · go_simp
                    refine hK _ _ ?_
                    clear hK K
                    refine wpAnyIn_ready (rs := [6]) (by kernel_rfl) (by simp) ?_
                    refine AllReadyIn.cons rfl (fun K hK => ?_) ?_
                    · refine step_append_in rfl _ _ 42 rfl W1.heap.size 36 i0 (.agg #[.int .u8 0, .slice none 0 0]) 2 32 Try.underlying42 hi hz0 hz1 hz2 rfl (by decide) (.slice po no co) r (cellsD es) rfl ((ownsRow_after HOWN.out hk4).alloc _) ⟨w4.heap.size, 0, none⟩ 1 1 [.int .u8 1, .slice a4 (hostsOf R (cum R r) (cum R (r + 1))).length c4] rfl rfl cell_two (by intro u hu; simp at hu; rcases hu with rfl | rfl <;> rfl) (by rw [HLM.out]; omega) (by omega) (by simp; omega) ?_
                      intro v5 w5 hown5 hgr5
                      refine hK _ _ ?_
                      clear hK K
                      obtain ⟨b5, es5, go5, ks5, out5, kk5⟩ := OutD.push (d := ⟨1, hostsOf R (cum R r) (cum R (r + 1))⟩) (by omega) (BO4.out.after hk4) (ownsRow_after HOWN.out hk4) (HES.out.after hk4) hv4 (grown_below HGO.out hk4) hown5 hgr5
                      obtain ⟨p5', c5', rfl⟩ := ownsRow_shape hown5
                      have x0 : w5.cell? ⟨w1.heap.size, 0, none⟩ = some (.slice po no co) := b5.cell 0
                      have x1 := b5.frozen 0
                      refine wpAnyIn_ready (rs := [7]) (by kernel_rfl) (by simp) ?_
                      refine AllReadyIn.cons rfl (fun K hK => ?_) ?_
                      · go_simp
                        refine hK _ _ ?_
                        clear hK K
                        refine wpAnyIn_done (by kernel_rfl) ?_ _
                        have bv6 := OutD.far (O := w1.heap.size) (v' := .slice p5' (r + 1) c5') (ownsRow_after HOWN.out hk4) hgr5 (BV.out.after hk4) (by decide) (by omega)
                        have kk6 := (KeepSoft.of_below (B := W1.heap.size) hk4).trans kk5
                        obtain ⟨w6, hw6⟩ : ∃ w6, w6 = w5.setCell ⟨w1.heap.size, 0, none⟩ (.slice p5' (r + 1) c5') := ⟨_, rfl⟩
                        rw [← hw6] at bv6 kk6 out5 ⊢
                        rw [← wavesD_succ] at out5
                        clear hw6 hv4 hf4 hb4 hk4 o4 hown5 hgr5 b5 es5 go5 ks5 kk5 x0 x1 o0 v0 v1 v2
                        obtain ⟨p6, n6, c6', e6, b6, own6, es6, g6⟩ := out5
                        obtain ⟨v0, v1, v2⟩ := bv6.cells3
                        have HFA := Lib.hid (HF3.out.grownBox BO3.out g6)
                        have d6 : w6.cell? ⟨w.heap.size + 1, 0, none⟩ = some (.slice p fails.length c) := (BF3.out.grown' g6 (by intro e; injection e with e; omega)).cell 0
                        have BD6 := Lib.hid (BD3.out.grown' g6 (by intro e; injection e with e; omega))
                        have BE6 := Lib.hid (BE3.out.grown' g6 (by intro e; injection e with e; omega))
                        have HB6 := Lib.hid (HB3.out.grown g6 HB3.out.size (fun g e => by injection e with e; omega))
                        have B6 := Lib.hid b6
                        have OWN6 := Lib.hid own6
                        have ES6 := Lib.hid es6
                        have G6 := Lib.hid g6
                        have K6 := Lib.hid kk6
                        have hsz6 := g6.size
                        have hl6 := BE6.out.lt
                        have hlo6 := b6.lt
                        clear b6 own6 es6 g6 kk6 bv6
                        by_cases hgo : GoB R (cum R (r + 1)) (failsN fails (cum R (r + 1)))
                        · have hcm : (fails.take (cum R (r + 1))).count true < m := (HG.out _).1 hgo
                          have HRJ : Hid (∀ W, OutD W1 w1.heap.size (r + 1) (wavesD R (r + 1)) W → RJ R fails W1 w1.heap.size (r + 1) W) := fun W h => ⟨h, by rw [HRUN.out, HQ.out, HQ2.out, runD_go hgo]⟩
                          clear hgo
                          gi_wp2
                          refine wpIn_quiet_round (by kernel_rfl) (by kernel_rfl) (by kernel_rfl) ?_
                          repeat (gi_big_quiet_step ((gi_at_call 17; exact CallsIn.quiet_of_same (CallsIn.inRound l (callsIn_wide.2 (failures_c _ _ _ (HFA.out.front _ (by omega))))))))
                          refine wpQuietIn_nil ?_
                          intro _ hw'
                          obtain ⟨nq, hw''⟩ := hw'
                          subst hw''
                          obtain ⟨w7, hw7⟩ : ∃ w7, w7 = w6.drewN nq := ⟨_, rfl⟩
                          have hb7 : Below w6.heap.size w6 w7 := hw7 ▸ below_drewN w6 nq w6.heap.size
                          rw [← hw7]
                          clear hw7
                          have HO7 : Hid (OutD W1 w1.heap.size (r + 1) (wavesD R (r + 1)) w7) := OutD.after ⟨p6, n6, c6', e6, B6.out, OWN6.out, ES6.out, G6.out⟩ hb7
                          have K7 := Lib.hid (K6.out.below hb7)
                          clear hb7
                          gi_wp2
                          exact ⟨HRJ.out _ HO7.out, K7.out⟩
                        · have hcm : m ≤ (fails.take (cum R (r + 1))).count true := Nat.le_of_not_lt (fun h => hgo ((HG.out _).2 h))
                          have HX : Hid (runF R fails = (wavesD R (r + 1) ++ [⟨2, []⟩], 0)) := by show _ = _; rw [hfin.out, HRUN.out, HQ.out, runD_stop hgo]
                          clear hgo
                          gi_wp2
                          refine wpIn_quiet_round (by kernel_rfl) (by kernel_rfl) (by kernel_rfl) ?_
                          repeat (gi_big_quiet_step ((gi_at_call 17; exact CallsIn.quiet_of_same (CallsIn.inRound l (callsIn_wide.2 (failures_c _ _ _ (HFA.out.front _ (by omega))))))))
                          refine wpQuietIn_nil ?_
                          intro _ hw'
                          obtain ⟨nq, hw''⟩ := hw'
                          subst hw''
                          obtain ⟨w7, hw7⟩ : ∃ w7, w7 = w6.drewN nq := ⟨_, rfl⟩
                          have hb7 : Below w6.heap.size w6 w7 := hw7 ▸ below_drewN w6 nq w6.heap.size
                          rw [← hw7]
                          clear hw7
                          have o7 : w7.cell? ⟨w1.heap.size, 0, none⟩ = some (.slice p6 n6 c6') := (B6.out.after hb7).cell 0
                          have OWN7 := Lib.hid (ownsRow_after OWN6.out hb7)
                          have hs7 := hb7.size
                          gi_wp2_with (gi_at_builtin; refine wpListIn_append_own _ rfl _ _ 42 rfl W1.heap.size 36 i0 (.agg #[.int .u8 0, .slice none 0 0]) 2 32 Try.underlying42 hi hz0 hz1 hz2 rfl (by decide) _ _ _ rfl (OWN7.out.alloc _) ⟨w7.heap.size, 0, none⟩ 1 1 [.int .u8 2, .slice none 0 0] rfl rfl cell_two (by intro u hu; simp at hu; rcases hu with rfl | rfl <;> rfl) (by rw [HLM.out]; omega) (by omega) (by simp; omega) ?_)
                          intro v8 w8 hown8 hgr8 _
                          obtain ⟨b8, es8, go8, ks8, _, _⟩ := OutD.push (d := ⟨2, []⟩) (by omega) (B6.out.after hb7) OWN7.out (ES6.out.after hb7) (SlT.nil _) (grown_below G6.out hb7) hown8 hgr8
                          obtain ⟨p8, c8, rfl⟩ := ownsRow_shape hown8
                          have bd8 := BD3.out.grown' go8 (by intro e; injection e with e; omega)
                          have be8 := BE3.out.grown' go8 (by intro e; injection e with e; omega)
                          have hown9 : w8.ownsRow W1.heap.size 36 2 (.slice p8 (r + 1 + 1) c8) (r + 1 + 1) (cellsD (e6 ++ [(2, .slice none 0 0)])) := by rw [cellsD_snoc]; exact hown8
                          have HST := Lib.hid (ds_store (e := 0) bd8 be8 (by omega) (HB3.out.grown go8 HB3.out.size (fun g e => by injection e with e; omega)) hown9 es8 (by omega))
                          have HKP := Lib.hid (ds_keep bd8 be8 ((K6.out.below hb7).trans ks8) (.slice p8 (r + 1 + 1) c8) (.int .i64 0))
                          have r0 : w8.cell? ⟨w.heap.size + 1 + 1, 0, none⟩ = some (.slice none 0 0) := bd8.cell 0
                          have r2 : w8.cell? ⟨w.heap.size + 1 + 1 + 1, 0, none⟩ = some (.int .i64 0) := be8.cell 0
                          have f0 := bd8.frozen 0
                          have f2 := be8.frozen 0
                          clear hown8 hown9 hgr8 b8 es8 go8 ks8 bd8 be8 hb7 o7
                          gi_wp2
                          refine ⟨?_, HKP.out⟩
                          rw [HX.out]
                          exact HST.out
                      exact AllReadyIn.nil
                    exact AllReadyIn.nil
                  exact AllReadyIn.nil
                refine AllReadyIn.cons rfl (fun K hK => ?_) ?_
                · go_simp
                  refine hK _ _ ?_
                  clear hK K
                  refine wpAnyIn_ready (rs := [0]) (by kernel_rfl) (by simp) ?_
                  refine AllReadyIn.cons rfl (fun K hK => ?_) ?_
                  · go_simp
                    refine hK _ _ ?_
                    clear hK K
                    refine wpAnyIn_ready (rs := [6]) (by kernel_rfl) (by simp) ?_
                    refine AllReadyIn.cons rfl (fun K hK => ?_) ?_
                    · refine step_append_in rfl _ _ 42 rfl W1.heap.size 36 i0 (.agg #[.int .u8 0, .slice none 0 0]) 2 32 Try.underlying42 hi hz0 hz1 hz2 rfl (by decide) (.slice po no co) r (cellsD es) rfl ((ownsRow_after HOWN.out hk4).alloc _) ⟨w4.heap.size, 0, none⟩ 1 1 [.int .u8 1, .slice a4 (hostsOf R (cum R r) (cum R (r + 1))).length c4] rfl rfl cell_two (by intro u hu; simp at hu; rcases hu with rfl | rfl <;> rfl) (by rw [HLM.out]; omega) (by omega) (by simp; omega) ?_
                      intro v5 w5 hown5 hgr5
                      refine hK _ _ ?_
                      clear hK K
                      obtain ⟨b5, es5, go5, ks5, out5, kk5⟩ := OutD.push (d := ⟨1, hostsOf R (cum R r) (cum R (r + 1))⟩) (by omega) (BO4.out.after hk4) (ownsRow_after HOWN.out hk4) (HES.out.after hk4) hv4 (grown_below HGO.out hk4) hown5 hgr5
                      obtain ⟨p5', c5', rfl⟩ := ownsRow_shape hown5
                      have x0 : w5.cell? ⟨w1.heap.size, 0, none⟩ = some (.slice po no co) := b5.cell 0
                      have x1 := b5.frozen 0
                      refine wpAnyIn_ready (rs := [7]) (by kernel_rfl) (by simp) ?_
                      refine AllReadyIn.cons rfl (fun K hK => ?_) ?_
                      · go_simp
                        refine hK _ _ ?_
                        clear hK K
                        refine wpAnyIn_done (by kernel_rfl) ?_ _
                        have bv6 := OutD.far (O := w1.heap.size) (v' := .slice p5' (r + 1) c5') (ownsRow_after HOWN.out hk4) hgr5 (BV.out.after hk4) (by decide) (by omega)
                        have kk6 := (KeepSoft.of_below (B := W1.heap.size) hk4).trans kk5
                        obtain ⟨w6, hw6⟩ : ∃ w6, w6 = w5.setCell ⟨w1.heap.size, 0, none⟩ (.slice p5' (r + 1) c5') := ⟨_, rfl⟩
                        rw [← hw6] at bv6 kk6 out5 ⊢
                        rw [← wavesD_succ] at out5
                        clear hw6 hv4 hf4 hb4 hk4 o4 hown5 hgr5 b5 es5 go5 ks5 kk5 x0 x1 o0 v0 v1 v2
                        obtain ⟨p6, n6, c6', e6, b6, own6, es6, g6⟩ := out5
                        obtain ⟨v0, v1, v2⟩ := bv6.cells3
                        have HFA := Lib.hid (HF3.out.grownBox BO3.out g6)
                        have d6 : w6.cell? ⟨w.heap.size + 1, 0, none⟩ = some (.slice p fails.length c) := (BF3.out.grown' g6 (by intro e; injection e with e; omega)).cell 0
                        have BD6 := Lib.hid (BD3.out.grown' g6 (by intro e; injection e with e; omega))
                        have BE6 := Lib.hid (BE3.out.grown' g6 (by intro e; injection e with e; omega))
                        have HB6 := Lib.hid (HB3.out.grown g6 HB3.out.size (fun g e => by injection e with e; omega))
                        have B6 := Lib.hid b6
                        have OWN6 := Lib.hid own6
                        have ES6 := Lib.hid es6
                        have G6 := Lib.hid g6
                        have K6 := Lib.hid kk6
                        have hsz6 := g6.size
                        have hl6 := BE6.out.lt
                        have hlo6 := b6.lt
                        clear b6 own6 es6 g6 kk6 bv6
                        by_cases hgo : GoB R (cum R (r + 1)) (failsN fails (cum R (r + 1)))
                        · have hcm : (fails.take (cum R (r + 1))).count true < m := (HG.out _).1 hgo
                          have HRJ : Hid (∀ W, OutD W1 w1.heap.size (r + 1) (wavesD R (r + 1)) W → RJ R fails W1 w1.heap.size (r + 1) W) := fun W h => ⟨h, by rw [HRUN.out, HQ.out, HQ2.out, runD_go hgo]⟩
                          clear hgo
                          gi_wp2
                          refine wpIn_quiet_round (by kernel_rfl) (by kernel_rfl) (by kernel_rfl) ?_
                          repeat (gi_big_quiet_step ((gi_at_call 17; exact CallsIn.quiet_of_same (CallsIn.inRound l (callsIn_wide.2 (failures_c _ _ _ (HFA.out.front _ (by omega))))))))
                          refine wpQuietIn_nil ?_
                          intro _ hw'
                          obtain ⟨nq, hw''⟩ := hw'
                          subst hw''
                          obtain ⟨w7, hw7⟩ : ∃ w7, w7 = w6.drewN nq := ⟨_, rfl⟩
                          have hb7 : Below w6.heap.size w6 w7 := hw7 ▸ below_drewN w6 nq w6.heap.size
                          rw [← hw7]
                          clear hw7
                          have HO7 : Hid (OutD W1 w1.heap.size (r + 1) (wavesD R (r + 1)) w7) := OutD.after ⟨p6, n6, c6', e6, B6.out, OWN6.out, ES6.out, G6.out⟩ hb7
                          have K7 := Lib.hid (K6.out.below hb7)
                          clear hb7
                          gi_wp2
                          exact ⟨HRJ.out _ HO7.out, K7.out⟩
                        · have hcm : m ≤ (fails.take (cum R (r + 1))).count true := Nat.le_of_not_lt (fun h => hgo ((HG.out _).2 h))
                          have HX : Hid (runF R fails = (wavesD R (r + 1) ++ [⟨2, []⟩], 0)) := by show _ = _; rw [hfin.out, HRUN.out, HQ.out, runD_stop hgo]
                          clear hgo
                          gi_wp2
                          refine wpIn_quiet_round (by kernel_rfl) (by kernel_rfl) (by kernel_rfl) ?_
                          repeat (gi_big_quiet_step ((gi_at_call 17; exact CallsIn.quiet_of_same (CallsIn.inRound l (callsIn_wide.2 (failures_c _ _ _ (HFA.out.front _ (by omega))))))))
                          refine wpQuietIn_nil ?_
                          intro _ hw'
                          obtain ⟨nq, hw''⟩ := hw'
                          subst hw''
                          obtain ⟨w7, hw7⟩ : ∃ w7, w7 = w6.drewN nq := ⟨_, rfl⟩
                          have hb7 : Below w6.heap.size w6 w7 := hw7 ▸ below_drewN w6 nq w6.heap.size
                          rw [← hw7]
                          clear hw7
                          have o7 : w7.cell? ⟨w1.heap.size, 0, none⟩ = some (.slice p6 n6 c6') := (B6.out.after hb7).cell 0
                          have OWN7 := Lib.hid (ownsRow_after OWN6.out hb7)
                          have hs7 := hb7.size
                          gi_wp2_with (gi_at_builtin; refine wpListIn_append_own _ rfl _ _ 42 rfl W1.heap.size 36 i0 (.agg #[.int .u8 0, .slice none 0 0]) 2 32 Try.underlying42 hi hz0 hz1 hz2 rfl (by decide) _ _ _ rfl (OWN7.out.alloc _) ⟨w7.heap.size, 0, none⟩ 1 1 [.int .u8 2, .slice none 0 0] rfl rfl cell_two (by intro u hu; simp at hu; rcases hu with rfl | rfl <;> rfl) (by rw [HLM.out]; omega) (by omega) (by simp; omega) ?_)
                          intro v8 w8 hown8 hgr8 _
                          obtain ⟨b8, es8, go8, ks8, _, _⟩ := OutD.push (d := ⟨2, []⟩) (by omega) (B6.out.after hb7) OWN7.out (ES6.out.after hb7) (SlT.nil _) (grown_below G6.out hb7) hown8 hgr8
                          obtain ⟨p8, c8, rfl⟩ := ownsRow_shape hown8
                          have bd8 := BD3.out.grown' go8 (by intro e; injection e with e; omega)
                          have be8 := BE3.out.grown' go8 (by intro e; injection e with e; omega)
                          have hown9 : w8.ownsRow W1.heap.size 36 2 (.slice p8 (r + 1 + 1) c8) (r + 1 + 1) (cellsD (e6 ++ [(2, .slice none 0 0)])) := by rw [cellsD_snoc]; exact hown8
                          have HST := Lib.hid (ds_store (e := 0) bd8 be8 (by omega) (HB3.out.grown go8 HB3.out.size (fun g e => by injection e with e; omega)) hown9 es8 (by omega))
                          have HKP := Lib.hid (ds_keep bd8 be8 ((K6.out.below hb7).trans ks8) (.slice p8 (r + 1 + 1) c8) (.int .i64 0))
                          have r0 : w8.cell? ⟨w.heap.size + 1 + 1, 0, none⟩ = some (.slice none 0 0) := bd8.cell 0
                          have r2 : w8.cell? ⟨w.heap.size + 1 + 1 + 1, 0, none⟩ = some (.int .i64 0) := be8.cell 0
                          have f0 := bd8.frozen 0
                          have f2 := be8.frozen 0
                          clear hown8 hown9 hgr8 b8 es8 go8 ks8 bd8 be8 hb7 o7
                          gi_wp2
                          refine ⟨?_, HKP.out⟩
                          rw [HX.out]
                          exact HST.out
                      exact AllReadyIn.nil
                    exact AllReadyIn.nil
                  exact AllReadyIn.nil
                exact AllReadyIn.nil
              exact AllReadyIn.nil
            exact AllReadyIn.nil
          exact AllReadyIn.nil
        exact AllReadyIn.nil
      case done =>
        intro W hj hK
        obtain ⟨⟨po, no, co, es, bo3, hown, hes, hgO⟩, hrun⟩ := hj
        have HX : Hid (runF R fails = (wavesD R R.waves.length ++ [⟨3, []⟩], 0)) := by show _ = _; rw [hfin.out, hrun, Nat.sub_self]; rfl
        have o0 : W.cell? ⟨w1.heap.size, 0, none⟩ = some (.slice po no co) := bo3.cell 0
        obtain ⟨i0, hi, hz0, hz1, hz2⟩ := info_parts infoD
        have hlm : maxLen = 9223372036854775807 := rfl
        have HLM := Lib.hid hlm
        have BO4 := Lib.hid bo3
        have HOWN := Lib.hid hown
        have HES := Lib.hid hes
        have HGO := Lib.hid hgO
        have HK := Lib.hid hK
        have hszO := hgO.size
        have hDl := (Array.getElem?_eq_some_iff.1 hK).1
        clear bo3 hown hes hgO hrun hlm hK
        go_wp2_with (at_builtin; refine wpList_append_own _ rfl _ _ 42 rfl W1.heap.size 36 i0 (.agg #[.int .u8 0, .slice none 0 0]) 2 32 Try.underlying42 hi hz0 hz1 hz2 rfl (by decide) _ _ _ rfl (HOWN.out.alloc _) ⟨W.heap.size, 0, none⟩ 1 1 [.int .u8 3, .slice none 0 0] rfl rfl cell_two (by intro u hu; simp at hu; rcases hu with rfl | rfl <;> rfl) (by rw [HLM.out]; omega) (by omega) (by simp; omega) ?_)
        intro v8 w8 hown8 hgr8 _
        obtain ⟨b8, es8, go8, ks8, _, _⟩ := OutD.push (d := ⟨3, []⟩) (by omega) BO4.out HOWN.out HES.out (SlT.nil _) HGO.out hown8 hgr8
        obtain ⟨p8, c8, rfl⟩ := ownsRow_shape hown8
        have bd8 := BD3.out.grown' go8 (by intro e; injection e with e; omega)
        have be8 := BE3.out.grown' go8 (by intro e; injection e with e; omega)
        have hown9 : w8.ownsRow W1.heap.size 36 2 (.slice p8 (R.waves.length + 1) c8) (R.waves.length + 1) (cellsD (es ++ [(3, .slice none 0 0)])) := by rw [cellsD_snoc]; exact hown8
        have HST := Lib.hid (ds_store (e := 0) bd8 be8 (by omega) (HB3.out.grown go8 HB3.out.size (fun g e => by injection e with e; omega)) hown9 es8 (by omega))
        have HKP := Lib.hid (ds_keep bd8 be8 ks8 (.slice p8 (R.waves.length + 1) c8) (.int .i64 0))
        have r0 : w8.cell? ⟨w.heap.size + 1 + 1, 0, none⟩ = some (.slice none 0 0) := bd8.cell 0
        have r2 : w8.cell? ⟨w.heap.size + 1 + 1 + 1, 0, none⟩ = some (.int .i64 0) := be8.cell 0
        have f0 := bd8.frozen 0
        have f2 := be8.frozen 0
        clear hown8 hown9 hgr8 b8 es8 go8 ks8 bd8 be8 o0
        go_wp2_with fail
        obtain ⟨W5, hW5⟩ : ∃ W5, W5 = (w8.setCell ⟨w.heap.size + 1 + 1, 0, none⟩ (.slice p8 (R.waves.length + 1) c8)).setCell ⟨w.heap.size + 1 + 1 + 1, 0, none⟩ (.int .i64 0) := ⟨_, rfl⟩
        have hst : DsAt w (w.heap.size + 1 + 1) (wavesD R R.waves.length ++ [⟨3, []⟩], 0) W5 := hW5 ▸ HST.out
        have hkp : KeepSoft W1.heap.size W W5 := hW5 ▸ HKP.out
        rw [← hW5]
        clear hW5 HST HKP r0 r2 f0 f2
        have hK5 : W5.heap[W1.heap.size]? = some (.deferred (some [])) := (hkp.2 _ (Nat.le_refl _) (.inr ⟨_, HK.out⟩)).trans HK.out
        refine ⟨by simp, .inl ⟨_, _, rfl, run_takeDeferred hK5, ?_⟩⟩
        obtain ⟨v', b1, b2, hs', hbel⟩ := hst.soft (.inr ⟨_, hK5⟩) (by omega) (putObj_grown2 W5 W1.heap.size (.deferred none))
        obtain ⟨W6, hW6⟩ : ∃ W6, W6 = W5.putObj W1.heap.size (.deferred none) := ⟨_, rfl⟩
        rw [← hW6] at b1 b2 hs' hbel ⊢
        clear hW6
        have e0 : W6.cell? ⟨w.heap.size + 1 + 1, 0, none⟩ = some v' := b1.cell 0
        have e2 : W6.cell? ⟨w.heap.size + 1 + 1 + 1, 0, none⟩ = some (.int .i64 0) := b2.cell 0
        refine ⟨.tuple #[v', .int .i64 0], by simp [results, Try.results8, go_sem, e0, e2], ?_⟩
        rw [HX.out]
        exact ⟨v', rfl, hs', hbel⟩
      case stop =>
        rintro l r W3 W hr hx hl hs hgr hK
        have hx1 := hx.soft hs (by omega) hgr
        obtain ⟨v', b1, b2, hs', hbel⟩ := hx1.soft (.inr ⟨_, hK⟩) (by omega) (putObj_grown2 W W1.heap.size (.deferred none))
        clear hx hx1 hgr hs
        gi_wp2
        refine ⟨by simp, .inl ⟨_, _, rfl, run_takeDeferred hK, ?_⟩⟩
        obtain ⟨W6, hW6⟩ : ∃ W6, W6 = W.putObj W1.heap.size (.deferred none) := ⟨_, rfl⟩
        rw [← hW6] at b1 b2 hs' hbel ⊢
        clear hW6
        have e0 : W6.cell? ⟨w.heap.size + 1 + 1, 0, none⟩ = some v' := b1.cell 0
        have e2 : W6.cell? ⟨w.heap.size + 1 + 1 + 1, 0, none⟩ = some (.int .i64 (runF R fails).2) := b2.cell 0
        refine ⟨.tuple #[v', .int .i64 (runF R fails).2], by simp [results, Try.results8, go_sem, e0, e2], ?_⟩
        exact ⟨v', rfl, hs', hbel⟩
    · have hfin : Hid (runF R fails = ([], 2)) := by show _ = _; unfold runF; rw [if_pos HV.out, if_neg hl]
      have hbl : ((fails.length : Int) != (R.hosts.length : Int)) = true := by rw [bne_iff_ne]; omega
      go_enter Try.func8, Try.ntmps8
      go_upto_region 1 with fail
      rw [← hW]
      clear hW
      go_wp2_with fail
      refine (cValid_c _ _ R HP.out).mono ?_
      intro e w1 hr
      obtain ⟨rfl, hb1⟩ := hr.yes HV.out
      obtain ⟨c0, c1, c2, c3, c4, c5, c6, c7⟩ := (BP.out.after hb1).cells8
      have d0 : w1.cell? ⟨w.heap.size + 1, 0, none⟩ = some (.slice p fails.length c) := (BF.out.after hb1).cell 0
      have bd := BD.out.after hb1
      have be := BE.out.after hb1
      have r0 : w1.cell? ⟨w.heap.size + 1 + 1, 0, none⟩ = some (.slice none 0 0) := bd.cell 0
      have r2 : w1.cell? ⟨w.heap.size + 1 + 1 + 1, 0, none⟩ = some (.int .i64 0) := be.cell 0
      have f0 := bd.frozen 0
      have f2 := be.frozen 0
      have HST : Hid (DsAt w (w.heap.size + 1 + 1) ([], 2) ((w1.setCell ⟨w.heap.size + 1 + 1, 0, none⟩ (.slice none 0 0)).setCell ⟨w.heap.size + 1 + 1 + 1, 0, none⟩ (.int .i64 2))) := ds_store (es := []) (base := w.heap.size + 1 + 1 + 1 + 1) (n := 0) bd be (by omega) (HB0.out.trans (hb1.mono HB0.out.size)) ⟨rfl, .inl ⟨rfl, rfl⟩⟩ (EntsD.nil _) (by omega)
      clear hr hb1 bd be
      go_wp2_with fail
      obtain ⟨W5, hW5⟩ : ∃ W5, W5 = (w1.setCell ⟨w.heap.size + 1 + 1, 0, none⟩ (.slice none 0 0)).setCell ⟨w.heap.size + 1 + 1 + 1, 0, none⟩ (.int .i64 2) := ⟨_, rfl⟩
      obtain ⟨v', b1, b2, hs', hbel⟩ : DsAt w (w.heap.size + 1 + 1) ([], 2) W5 := hW5 ▸ HST.out
      rw [← hW5]
      clear hW5 HST r0 r2 f0 f2
      have e0 : W5.cell? ⟨w.heap.size + 1 + 1, 0, none⟩ = some v' := b1.cell 0
      have e2 : W5.cell? ⟨w.heap.size + 1 + 1 + 1, 0, none⟩ = some (.int .i64 2) := b2.cell 0
      refine bodyPost_ret (v := .tuple #[v', .int .i64 2]) (by simp [results, Try.results8, go_sem, e0, e2]) rfl ?_
      rw [hfin.out]
      exact ⟨v', rfl, hs', hbel⟩
  · have hfin : Hid (runF R fails = ([], 1)) := by show _ = _; unfold runF; rw [if_neg hv]
    have HV := Lib.hid hv
    clear hv
    go_enter Try.func8, Try.ntmps8
    go_upto_region 1 with fail
    rw [← hW]
    clear hW
    go_wp2_with fail
    refine (cValid_c _ _ R HP.out).mono ?_
    intro e w1 hr
    obtain ⟨rfl, hb1⟩ := hr.no HV.out
    have bd := BD.out.after hb1
    have be := BE.out.after hb1
    have r0 : w1.cell? ⟨w.heap.size + 1 + 1, 0, none⟩ = some (.slice none 0 0) := bd.cell 0
    have r2 : w1.cell? ⟨w.heap.size + 1 + 1 + 1, 0, none⟩ = some (.int .i64 0) := be.cell 0
    have f0 := bd.frozen 0
    have f2 := be.frozen 0
    have HST : Hid (DsAt w (w.heap.size + 1 + 1) ([], 1) ((w1.setCell ⟨w.heap.size + 1 + 1, 0, none⟩ (.slice none 0 0)).setCell ⟨w.heap.size + 1 + 1 + 1, 0, none⟩ (.int .i64 1))) := ds_store (es := []) (base := w.heap.size + 1 + 1 + 1 + 1) (n := 0) bd be (by omega) (HB0.out.trans (hb1.mono HB0.out.size)) ⟨rfl, .inl ⟨rfl, rfl⟩⟩ (EntsD.nil _) (by omega)
    clear hr hb1 bd be
    go_wp2_with fail
    obtain ⟨W5, hW5⟩ : ∃ W5, W5 = (w1.setCell ⟨w.heap.size + 1 + 1, 0, none⟩ (.slice none 0 0)).setCell ⟨w.heap.size + 1 + 1 + 1, 0, none⟩ (.int .i64 1) := ⟨_, rfl⟩
    obtain ⟨v', b1, b2, hs', hbel⟩ : DsAt w (w.heap.size + 1 + 1) ([], 1) W5 := hW5 ▸ HST.out
    rw [← hW5]
    clear hW5 HST r0 r2 f0 f2
    have e0 : W5.cell? ⟨w.heap.size + 1 + 1, 0, none⟩ = some v' := b1.cell 0
    have e2 : W5.cell? ⟨w.heap.size + 1 + 1 + 1, 0, none⟩ = some (.int .i64 1) := b2.cell 0
    refine bodyPost_ret (v := .tuple #[v', .int .i64 1]) (by simp [results, Try.results8, go_sem, e0, e2]) rfl ?_
    rw [hfin.out]
    exact ⟨v', rfl, hs', hbel⟩
end Go.Proofs.Ytebmegodeglobaa
