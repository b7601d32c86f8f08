/- Walks of package ratio: Nearest, the great case. -/
import Derived.Test.YtaojdlcailpheaaK24
import Derived.Test.YtaojdlcailpheaaK20
import Derived.Sort.CutIn
set_option linter.unusedVariables false
namespace Go.Proofs.Ytaojdlcailpheaa
open Go.RowKit Go.Shelf
attribute [local go_sem] Oper.semAt_some wide_fn

set_option maxRecDepth 100000 in
set_option maxHeartbeats 16000000 in
theorem near_big (w : World) (v : Value) (s : Bool) (a b N : Nat) (h : IsF w v (fr s a b)) (hok : Ok s a b) (hN1 : 1 ≤ N) (hN2 : N ≤ 1000) (hbN : ¬ b ≤ N) : Calls Try.prog 41 #[v, .int .i64 (N : Int)] w (RetF w (nearC s a b N (nearL N Ch.begun (cf a b)), 0)) := by
  have HX := h
  obtain ⟨va, vb, rfl, h1, h2⟩ := h
  simp only [fr] at h1 h2
  obtain ⟨p0, k0, rfl, _, _⟩ := h1.shape
  obtain ⟨p1, k1, rfl, _, _⟩ := h2.shape
  obtain ⟨W0, hW⟩ : ∃ W0, W0 = ((w.alloc (.cells #[.bool s, .slice p0 (limbs a).length k0, .slice p1 (limbs b).length k1] 25)).alloc (.cells #[.bool false, .slice none 0 0, .slice none 0 0] 25)).alloc (.cells #[.int .i64 0] 27) := ⟨_, rfl⟩
  have hb0 : Below w.heap.size w W0 := hW ▸ held_alloc (held_alloc (held_alloc (Below.refl _ w)))
  have bx : Box W0 w.heap.size #[.bool s, .slice p0 (limbs a).length k0, .slice p1 (limbs b).length k1] 25 := hW ▸ ((Box.new w _ _).alloc _).alloc _
  have br : Box W0 (w.heap.size + 1) #[.bool false, .slice none 0 0, .slice none 0 0] 25 := by
    rw [hW]
    have := (Box.new (w.alloc (.cells #[.bool s, .slice p0 (limbs a).length k0, .slice p1 (limbs b).length k1] 25)) #[.bool false, .slice none 0 0, .slice none 0 0] 25).alloc (.cells #[.int .i64 0] 27)
    simpa using this
  have be : Box W0 (w.heap.size + 1 + 1) #[.int .i64 0] 27 := by
    rw [hW]
    have := Box.new ((w.alloc (.cells #[.bool s, .slice p0 (limbs a).length k0, .slice p1 (limbs b).length k1] 25)).alloc (.cells #[.bool false, .slice none 0 0, .slice none 0 0] 25)) #[.int .i64 0] 27
    simpa using this
  have HV := Lib.hid (validF_fr.2 hok)
  have H1 : Hid (IsF W0 (.agg #[.bool s, .slice p0 (limbs a).length k0, .slice p1 (limbs b).length k1]) (fr s a b)) := HX.after hb0
  have BX := Lib.hid bx
  have BR := Lib.hid br
  have BE := Lib.hid be
  have HB0 := Lib.hid hb0
  obtain ⟨c0, c1, c2⟩ := bx.cells3
  have hlx := bx.lt
  have la : (limbs a).length ≤ 32 := hok.n32
  have lb : (limbs b).length ≤ 32 := hok.d32
  have hbp : 0 < b := hok.pos
  have hcop : Hid (Nat.gcd a b = 1) := hok.gcd
  clear HX h1 h2 bx br be hb0 hok
  show Calls _ _ #[.agg #[.bool s, .slice p0 (limbs a).length k0, .slice p1 (limbs b).length k1], _] w _
  have hd1 : decide ((N : Int) < 1) = false := decide_eq_false (by omega)
  have hd2 : decide (1000 < (N : Int)) = false := decide_eq_false (by omega)
  have hd3 : decide (N < 1) = false := decide_eq_false (by omega)
  have hd4 : decide (1000 < N) = false := decide_eq_false (by omega)
  have hwu : IntKind.u64.wrap (N : Int) = (N : Int) := by rw [IntKind.wrap_u64]; omega
  have hNb : N < b := by omega
  clear hbN
  obtain ⟨M, hM⟩ : ∃ M, max a b = M := ⟨_, rfl⟩
  have hMl : Hid (∀ x, x ≤ M → (limbs x).length ≤ 32) := fun x hx => by
    rcases Nat.le_total a b with h | h
    · exact Nat.le_trans (limbs_len_mono (by omega)) lb
    · exact Nat.le_trans (limbs_len_mono (by omega)) la
  have haM : a ≤ M := by omega
  have hbM : b ≤ M := by omega
  clear hM
  obtain ⟨L, hL⟩ : ∃ L, cf a b = L := ⟨_, rfl⟩
  have HL := Lib.hid hL
  rw [hL]
  clear hL
  obtain ⟨fin, hfin⟩ : ∃ fin, nearL N Ch.begun L = fin := ⟨_, rfl⟩
  have HFIN := Lib.hid hfin
  rw [hfin]
  clear hfin
  refine callsIn_wide (n := 6).1 (callsIn_of_wp_marks Try.func41 rfl trivial (wpIn_wide.2 ?_) rfl)
  simp only [Try.ntmps41, List.size_toArray, List.length_cons, List.length_nil, Nat.reduceAdd, Nat.reduceSub, Array.replicate_succ, Array.replicate_zero, List.push_toArray, List.append_toArray, List.nil_append, List.cons_append]
  go_upto_region 1 with fail
  rw [← hW]
  clear hW
  go_wp2_with fail
  refine (Valid_c _ _ _ H1.out).mono ?_
  intro e w1 hr
  obtain ⟨rfl, hb1⟩ := hr.yes HV.out
  obtain ⟨wz, hwz⟩ : ∃ wz : World, wz = w1 := ⟨_, rfl⟩
  rw [← hwz] at hb1 ⊢
  clear hwz
  replace BR := Lib.hid (BR.out.after hb1)
  replace BE := Lib.hid (BE.out.after hb1)
  replace BX := Lib.hid (BX.out.after hb1)
  replace H1 := Lib.hid (H1.out.after hb1)
  replace HB0 := Lib.hid (HB0.out.trans (hb1.mono HB0.out.size))
  clear hr hb1 c0 c1 c2 hlx
  have BEz := BE
  go_upto_region 5 with fail
  go_wp2_with fail
  refine (from_n _ N (by first | rfl | (rw [hwu]) | omega) (by omega) _).mono ?_
  rintro e w2 ⟨v2, rfl, hv2, hb2⟩
  obtain ⟨pm, cm, rfl, _, _⟩ := hv2.shape
  go_upto_region 6 with fail
  obtain ⟨W2, hW2⟩ : ∃ W2, W2 = w2.alloc (.cells #[.slice pm (limbs N).length cm] 23) := ⟨_, rfl⟩
  have hbx : Below w2.heap.size w2 W2 := hW2 ▸ held_alloc (Below.refl _ w2)
  have hbb := hb2.trans (hbx.mono hb2.size)
  have b6 : Box W2 w2.heap.size #[.slice pm (limbs N).length cm] 23 := hW2 ▸ Box.new w2 _ _
  have B6 := Lib.hid b6
  have HM := Lib.hid (hv2.after hbx)
  replace BR := Lib.hid (BR.out.after hbb)
  replace BE := Lib.hid (BE.out.after hbb)
  replace BX := Lib.hid (BX.out.after hbb)
  replace H1 := Lib.hid (H1.out.after hbb)
  replace HB0 := Lib.hid (HB0.out.trans (hbb.mono HB0.out.size))
  have h6s : wz.heap.size ≤ w2.heap.size := hb2.size
  have hle0 : w.heap.size + 1 + 1 < w2.heap.size := by have := BEz.out.lt; omega
  rw [← hW2]
  clear hW2 hbx hbb hv2 hb2 b6 BEz
  obtain ⟨M6, hM6⟩ : ∃ M6, w2.heap.size = M6 := ⟨_, rfl⟩
  rw [hM6] at B6 h6s hle0 ⊢
  clear hM6
  obtain ⟨c0, c1, c2⟩ := BX.out.cells3
  have m0 : W2.cell? ⟨M6, 0, none⟩ = some (.slice pm (limbs N).length cm) := B6.out.cell 0
  have hlx := BX.out.lt
  have hlm := B6.out.lt
  have G2 := Lib.hid H1.out.parts.2.2
  go_wp2_with fail
  refine (compare_c W2 _ _ (limbs b) (limbs N) G2.out HM.out).mono ?_
  rintro e w' ⟨r, rfl, hr, nk, rfl⟩
  obtain ⟨w3, hw3⟩ : ∃ w3, w3 = W2.drewN nk := ⟨_, rfl⟩
  have hb3 : Below W2.heap.size W2 w3 := hw3 ▸ below_drewN W2 nk W2.heap.size
  replace B6 := Lib.hid (B6.out.after hb3)
  replace HM := Lib.hid (HM.out.after hb3)
  replace BR := Lib.hid (BR.out.after hb3)
  replace BE := Lib.hid (BE.out.after hb3)
  replace BX := Lib.hid (BX.out.after hb3)
  replace H1 := Lib.hid (H1.out.after hb3)
  replace HB0 := Lib.hid (HB0.out.trans (hb3.mono HB0.out.size))
  rw [← hw3]
  have hrgt := hr.gt
  clear hw3 hb3 hr c0 c1 c2 m0 hlx hlm G2
  have hr0 : decide (r ≤ 0) = false := decide_eq_false (by have := hrgt.2 hNb; omega)
  clear hrgt
  have B6lt := Lib.hid B6.out.lt
  obtain ⟨c0, c1, c2⟩ := BX.out.cells3
  clear c0 c1 c2
  go_wp2_with fail
  refine (begun_c _).mono ?_
  rintro e w5 ⟨v5, rfl, hv5, hb5⟩
  obtain ⟨q0, q1, q2, q3, e0, e1, e2, e3, rfl, g0, g1, g2, g3⟩ := hv5.open
  go_upto_region 9 with fail
  obtain ⟨W5, hW5⟩ : ∃ W5, W5 = w5.alloc (.cells #[.slice q0 (limbs Ch.begun.num).length e0, .slice q1 (limbs Ch.begun.den).length e1, .slice q2 (limbs Ch.begun.on).length e2, .slice q3 (limbs Ch.begun.od).length e3] 85) := ⟨_, rfl⟩
  have hbx : Below w5.heap.size w5 W5 := hW5 ▸ held_alloc (Below.refl _ w5)
  have VC : Hid (VarC W5 w5.heap.size Ch.begun) := ⟨_, _, _, _, hW5 ▸ Box.new w5 _ _, hv5.after hbx⟩
  have hb := hb5.trans (hbx.mono hb5.size)
  replace B6 := Lib.hid (B6.out.after hb)
  replace HM := Lib.hid (HM.out.after hb)
  replace BR := Lib.hid (BR.out.after hb)
  replace BE := Lib.hid (BE.out.after hb)
  replace BX := Lib.hid (BX.out.after hb)
  replace H1 := Lib.hid (H1.out.after hb)
  replace HB0 := Lib.hid (HB0.out.trans (hb.mono HB0.out.size))
  have hC0 : M6 < w5.heap.size := by have := hb5.size; have := B6lt.out; omega
  obtain ⟨C, hC⟩ : ∃ C, w5.heap.size = C := ⟨_, rfl⟩
  rw [← hW5]
  rw [hC] at VC hC0 ⊢
  clear hW5 hbx hb5 hb hC hv5 g0 g1 g2 g3 B6lt
  obtain ⟨c0, c1, c2⟩ := BX.out.cells3
  have hlx := BX.out.lt
  have VC0 := Lib.hid VC.out.lt
  go_wp2_with fail
  refine (parts_t _ p0 p1 _ _ k0 k1 s).mono ?_
  rintro e w6 ⟨rfl, rfl⟩
  obtain ⟨W1, hW1⟩ : ∃ W1, W1 = W5.alloc (.cells #[.bool s, .slice p0 (limbs a).length k0, .slice p1 (limbs b).length k1] 25) := ⟨_, rfl⟩
  have hb3 : Below W5.heap.size W5 W1 := hW1 ▸ held_alloc (Below.refl _ W5)
  have bp : Box W1 W5.heap.size #[.bool s, .slice p0 (limbs a).length k0, .slice p1 (limbs b).length k1] 25 := hW1 ▸ Box.new W5 _ _
  replace VC := Lib.hid (VC.out.after hb3)
  replace B6 := Lib.hid (B6.out.after hb3)
  replace HM := Lib.hid (HM.out.after hb3)
  replace BR := Lib.hid (BR.out.after hb3)
  replace BE := Lib.hid (BE.out.after hb3)
  replace BX := Lib.hid (BX.out.after hb3)
  replace H1 := Lib.hid (H1.out.after hb3)
  replace HB0 := Lib.hid (HB0.out.trans (hb3.mono HB0.out.size))
  have BP := Lib.hid bp
  have hCP : C < W5.heap.size := VC0.out
  rw [← hW1]
  clear hW1 hb3 bp c0 c1 c2 hlx VC0
  obtain ⟨P0, hP0⟩ : ∃ P0, W5.heap.size = P0 := ⟨_, rfl⟩
  rw [hP0] at BP hCP ⊢
  clear hP0
  have HNT : Hid (∀ g, g = C → ¬ Tag32 W1 g) := by
    obtain ⟨_, _, _, _, hbx, _⟩ := VC.out
    rintro g rfl
    exact hbx.noTag (by decide) _ rfl
  have hClt := VC.out.lt
  have hPlt := BP.out.lt
  have G1 : Hid (Sl W1 (.slice p0 (limbs a).length k0) (limbs a)) := H1.out.parts.2.1
  have G2 : Hid (Sl W1 (.slice p1 (limbs b).length k1) (limbs b)) := H1.out.parts.2.2
  go_wp2_with fail
  refine' (wpIn_wide (n := 6)).1 (wpIn_range_limb (n := 6) rfl (by omega) (gf := 109) (lb := #[.pointer (some ⟨P0, 0, none⟩)]) rfl trivial (enters_of Try.func109 (by kernel_rfl) rfl) L.length (NJ N a b M fin L C W1) (fun r args W => ∃ (x : Nat) (p : Option Addr) (c : Nat), L[r]? = some x ∧ args = #[.slice p (limbs x).length c, .bool (decide (r + 1 = L.length))] ∧ Sl W (.slice p (limbs x).length c) (limbs x)) (fun _ W => EndN w W (nearC s a b N fin) 0)
    (by rintro r args W ⟨x, p, c, _, rfl, _⟩; rfl) (fun r W h => by obtain ⟨_, _, _, _, _, hf, _⟩ := h; exact hf.size) (fun r W W' h hb => h.after hb) (fun r W W' l hl h hs hg => h.soft hl hs hg)
    ⟨a, b, Ch.begun, 1, VC.out, Fx.refl _ _, NI.begun hN1 hcop.out, HFIN.out, fun _ => ⟨hbp, HL.out⟩, fun h => absurd h (by have := List.length_pos_iff.2 (show L ≠ [] from HL.out ▸ cf_ne hbp); omega), haM, hbM⟩
    (fun l W2 J' Y hJJ hJb hJ0 hYY => callsIn_wide.2 (by
      obtain ⟨_, _, _, _, _, hf, _⟩ := (hJJ 0 W2 hJ0)
      rw [← HL.out] at hYY ⊢
      exact parts1_t l (6 - 1 - 1) W2 P0 s p0 p1 k0 k1 a b (BP.out.fx hf (by omega)) (G1.out.fx hf HNT.out) (G2.out.fx hf HNT.out) hbp (by omega) (by omega) J' Y hJb hJ0 hYY))
    (AsP L _) ?hA ?assign ?body ?done ?stop)
  case hA =>
    rintro r args a1 W wA ⟨x, p, c, _, rfl, _⟩
    exact Below.refl _ _
  case assign =>
    intro l r args W K hr hj hv hK
    obtain ⟨x, p, c, hx, rfl, hs⟩ := hv
    have HX := Lib.hid hx
    have HS := Lib.hid hs
    clear hx hs hj
    gi_wp2
    exact AsP.mk ⟨HX.out, HS.out⟩
  case stop =>
    rintro l r W3 W hr hx hl hs hgr hK
    have hx1 := hx.soft hs (by have := HB0.out.size; omega) hgr
    have hx2 := hx1.soft (.inr ⟨_, hK⟩) (by have := HB0.out.size; omega) (putObj_grown2 W W1.heap.size (.deferred none))
    obtain ⟨v1, v2, b1, b2, s1, s2, hbel⟩ := hx2
    clear hx hx1 hgr hs
    gi_wp2
    refine ⟨by simp, .inl ⟨_, _, rfl, run_takeDeferred hK, ?_⟩⟩
    obtain ⟨W6, hW6⟩ : ∃ W6, W6 = W.putObj W1.heap.size (.deferred none) := ⟨_, rfl⟩
    rw [← hW6] at b1 b2 s1 s2 hbel ⊢
    clear hW6
    obtain ⟨e0, e1, e2⟩ := b1.cells3
    have e3 : W6.cell? ⟨w.heap.size + 1 + 1, 0, none⟩ = some (.int .i64 0) := b2.cell 0
    refine ⟨.tuple #[.agg #[.bool (nearC s a b N fin).neg, v1, v2], .int .i64 0], by simp [results, Try.results41, go_sem, e0, e1, e2, e3], ?_⟩
    exact ⟨_, rfl, IsF.at_ s1 s2, hbel⟩
  case done =>
    rintro W ⟨A, B, ch, sg, _, _, hni, _, _, hz, _, _⟩ hK
    exfalso
    have hB := hz (Nat.le_refl _)
    subst hB
    obtain ⟨_, _, h3, _, h5, _, h7⟩ := hni
    rw [Nat.gcd_zero_right] at h7
    subst h7
    omega
  case body =>
    rintro l r args W wA w3 a1 hr hj hv ⟨x, pz, cz, ⟨hx, hsz⟩, rfl, rfl⟩ hj2 hsf hlW hgr
    obtain ⟨A, B, ch, sg, hvc, hfx, hni, hnl, hlt, _, hAM, hBM⟩ := hj2
    obtain ⟨hB, hcf⟩ := hlt hr
    have HSZ := Lib.hid (hsz.grown hgr hsf.noTag)
    obtain ⟨_, k2, k3, k4⟩ := cf_part (HL.out.symm ▸ hcf) hB
    rw [HL.out] at k2 k3 k4
    obtain rfl : x = A / B := by rw [hx] at k2; exact Option.some.inj k2
    obtain ⟨hA, l1, l2, l3, l4⟩ := hni.bound hNb hB
    have lch : ch.le 1000 := ⟨Nat.le_trans (limbs_len_mono l1) (by omega), Nat.le_trans (limbs_len_mono l3) (by omega), Nat.le_trans (limbs_len_mono l2) (by omega), Nat.le_trans (limbs_len_mono l4) (by omega)⟩
    have hqM : A / B ≤ M := Nat.le_trans (Nat.div_le_self _ _) hAM
    have lq : (limbs (A / B)).length ≤ 32 := hMl.out _ hqM
    have hdr : L.drop r = A / B :: L.drop (r + 1) := by
      rw [List.drop_eq_getElem_cons hr]
      rw [List.getElem?_eq_getElem hr] at hx
      injection hx with hx
      rw [hx]
    rw [hdr] at hnl
    have HNL := Lib.hid hnl
    have HNI := Lib.hid hni
    have HVC := Lib.hid hvc
    have HFX := Lib.hid hfx
    have LCH := Lib.hid lch
    have HK3 := Lib.hid k3
    have HK4 := Lib.hid k4
    obtain ⟨b0, b1, b2, b3, d0, d1, d2, d3, bC, isC⟩ := hvc.open
    obtain ⟨x0, x1, x2, x3⟩ := bC.cells4
    have HIC := Lib.hid isC
    have hClt3 := bC.lt
    have hrL : r < L.length := hr
    have hs13 := hfx.size
    clear hj hv hnl hni hvc hfx lch k2 k3 k4 hsz hgr hsf hx hcf hlt hdr bC isC hr l1 l2 l3 l4
    obtain ⟨q, hq⟩ : ∃ q, A / B = q := ⟨_, rfl⟩
    have HQ := Lib.hid hq
    rw [hq] at HSZ HNL lq hqM ⊢
    clear hq
    have BXr := Lib.hid (BX.out.fx HFX.out (by show ¬ _ = C; omega))
    have BRr := Lib.hid (BR.out.fx HFX.out (by show ¬ _ = C; omega))
    have BEr := Lib.hid (BE.out.fx HFX.out (by show ¬ _ = C; omega))
    have B6r := Lib.hid (B6.out.fx HFX.out (by show ¬ _ = C; omega))
    have HMr := Lib.hid (HM.out.fx HFX.out HNT.out)
    have HB0r := Lib.hid (HB0.out.trans (HFX.out.toBelow HB0.out.size (fun g e => by rw [e]; omega)))
    have HXr := Lib.hid (H1.out.fxr HFX.out HNT.out)
    gi_wp2
    refine (CallsIn.inRound l (callsIn_wide.2 (after_c _ _ _ ch q HIC.out HSZ.out LCH.out (by omega)))).mono ?_
    rintro e w4 ⟨v4, rfl, hv4, hb4⟩
    obtain ⟨n0, n1, n2, n3, j0, j1, j2, j3, rfl, _, g1, _, _⟩ := hv4.open
    gi_upto_region 12 with fail
    obtain ⟨W4, hW4⟩ : ∃ W4, W4 = w4.alloc (.cells #[.slice n0 (limbs (ch.after q).num).length j0, .slice n1 (limbs (ch.after q).den).length j1, .slice n2 (limbs (ch.after q).on).length j2, .slice n3 (limbs (ch.after q).od).length j3] 85) := ⟨_, rfl⟩
    have hbx : Below w4.heap.size w4 W4 := hW4 ▸ held_alloc (Below.refl _ w4)
    have hb34 := hb4.trans (hbx.mono hb4.size)
    have bE : Box W4 w4.heap.size #[.slice n0 (limbs (ch.after q).num).length j0, .slice n1 (limbs (ch.after q).den).length j1, .slice n2 (limbs (ch.after q).on).length j2, .slice n3 (limbs (ch.after q).od).length j3] 85 := hW4 ▸ Box.new w4 _ _
    have HVN := Lib.hid (hv4.after hbx)
    have HD := Lib.hid (g1.after hbx)
    have HEG : w3.heap.size ≤ w4.heap.size := hb4.size
    rw [← hW4]
    clear hW4 hbx hb4 hv4 g1 x0 x1 x2 x3
    obtain ⟨E, hE⟩ : ∃ E, w4.heap.size = E := ⟨_, rfl⟩
    rw [hE] at bE HEG ⊢
    clear hE
    obtain ⟨y0, y1, y2, y3⟩ := bE.cells4
    have m0 : W4.cell? ⟨M6, 0, none⟩ = some (.slice pm (limbs N).length cm) := (B6r.out.after hb34).cell 0
    have hlE := bE.lt
    have hlM := (B6r.out.after hb34).lt
    have HB34 := Lib.hid hb34
    have BE9 := Lib.hid bE
    clear bE hb34
    gi_wp2
    refine (CallsIn.inRound l (callsIn_wide.2 (compare_c W4 _ _ _ _ HD.out (HMr.out.after HB34.out)))).mono ?_
    rintro e w' ⟨r2, rfl, hr2, nk2, rfl⟩
    obtain ⟨w5, hw5⟩ : ∃ w5, w5 = W4.drewN nk2 := ⟨_, rfl⟩
    have hb5 : Below W4.heap.size W4 w5 := hw5 ▸ below_drewN W4 nk2 W4.heap.size
    have HB35 := Lib.hid (HB34.out.trans (hb5.mono HB34.out.size))
    replace BE9 := Lib.hid (BE9.out.after hb5)
    replace HVN := Lib.hid (HVN.out.after hb5)
    rw [← hw5]
    have hrgt2 := hr2.gt
    clear hw5 hb5 hr2 y0 y1 y2 y3 m0 hlE hlM HD HB34
    by_cases hle2 : (ch.after q).den ≤ N
    · have hr20 : decide (r2 ≤ 0) = true := decide_eq_true (by
        rcases Int.lt_or_le 0 r2 with h | h
        · have := hrgt2.1 h; omega
        · exact h)
      clear hrgt2
      have vc5 := HVC.out.after HB35.out
      obtain ⟨_, _, _, _, _, _, _, _, bC5, _⟩ := vc5.open
      obtain ⟨x0, x1, x2, x3⟩ := bC5.cells4
      have i0 := bC5.frozen 0
      have i1 := bC5.frozen 1
      have i2 := bC5.frozen 2
      have i3 := bC5.frozen 3
      have hlC := bC5.lt
      obtain ⟨hst, hgr5⟩ := vc5.store HVN.out
      have hfx5 := (HFX.out.below HB35.out).of hgr5 rfl
      have hks : KeepSoft W1.heap.size w3 _ := (KeepSoft.of_below (B := W1.heap.size) HB35.out).grown hgr5 (fun g e => by injection e with e; subst e; exact fun hs => hs.ne_box bC5 rfl)
      have hlim : Limb w3 _ := (Limb.of_below HB35.out).trans (Limb.of_grown hgr5 (fun g e => bC5.noTag (by decide) g e))
      have hni2 := HNI.out.step (by rw [HQ.out]; exact hle2)
      rw [HQ.out] at hni2
      have hnl2 : nearL N (ch.after q) (L.drop (r + 1)) = fin := by
        have := HNL.out
        simp only [nearL, if_pos hle2] at this
        exact this
      have HJ : Hid (NJ N a b M fin L C W1 (r + 1) _) := ⟨B, A % B, ch.after q, -sg, hst, hfx5, hni2, hnl2, fun hh => ⟨by rcases Nat.eq_zero_or_pos (A % B) with h0 | h0; have := HK3.out h0; omega; exact h0, (HK4.out (fun h0 => by have := HK3.out h0; omega)).2⟩, fun hh => by
        rcases Nat.eq_zero_or_pos (A % B) with h0 | h0
        · exact h0
        · have := (HK4.out (by omega)).1; omega, hBM, by have := Nat.mod_lt A hB; omega⟩
      have HKS := Lib.hid hks
      have HLIM := Lib.hid hlim
      obtain ⟨y0, y1, y2, y3⟩ := BE9.out.cells4
      have hlE := BE9.out.lt
      clear vc5 bC5 hst hgr5 hfx5 hks hlim hni2 hnl2
      gi_wp2
      exact ⟨HJ.out, HKS.out, HLIM.out⟩
    · have hr20 : decide (r2 ≤ 0) = false := decide_eq_false (by have := hrgt2.2 (by omega); omega)
      clear hrgt2
      have HFC : Hid (ch = fin) := by
        have := HNL.out
        simp only [nearL, if_neg hle2] at this
        exact this
      obtain ⟨k1, k2, k3, k4⟩ := HNI.out.pick hNb hB (by rw [HQ.out]; omega)
      obtain ⟨_, l1, l2, l3, l4⟩ := HNI.out.bound hNb hB
      have hsb : N - ch.od ≤ N := Nat.sub_le _ _
      obtain ⟨k', hk'⟩ : ∃ k', (N - ch.od) / ch.den = k' := ⟨_, rfl⟩
      have HK' := Lib.hid hk'
      have lk' : (limbs k').length ≤ 32 := Nat.le_trans (limbs_len_mono (by rw [← hk']; exact Nat.le_trans (Nat.div_le_self _ _) hsb)) (Nat.le_trans (limbs_len_mono (show N ≤ b by omega)) lb)
      have hod : ch.od ≤ N := HNI.out.od
      have lN : (limbs N).length ≤ 32 := Nat.le_trans (limbs_len_mono (show N ≤ b by omega)) lb
      have lNo : (limbs (N - ch.od)).length ≤ 32 := Nat.le_trans (limbs_len_mono hsb) lN
      have HM5 := Lib.hid (HMr.out.after HB35.out)
      have V5 := Lib.hid (HVC.out.after HB35.out)
      obtain ⟨b0, b1, b2, b3, d0, d1, d2, d3, bC5, isC5⟩ := V5.out.open
      obtain ⟨x0, x1, x2, x3⟩ := bC5.cells4
      have m0 : w5.cell? ⟨M6, 0, none⟩ = some (.slice pm (limbs N).length cm) := (B6r.out.after HB35.out).cell 0
      have O5 : Hid (Sl w5 (.slice b3 (limbs ch.od).length d3) (limbs ch.od)) := by
        obtain ⟨_, _, _, _, e, _, _, _, h3⟩ := isC5
        injection e with e
        have e2 := congrArg Array.toList e
        simp only [List.cons.injEq, and_true] at e2
        obtain ⟨_, _, _, rfl⟩ := e2
        exact h3
      have D5 : Hid (Sl w5 (.slice b1 (limbs ch.den).length d1) (limbs ch.den)) := by
        obtain ⟨_, _, _, _, e, _, h3, _, _⟩ := isC5
        injection e with e
        have e2 := congrArg Array.toList e
        simp only [List.cons.injEq, and_true] at e2
        obtain ⟨_, rfl, _, _⟩ := e2
        exact h3
      have IC5 := Lib.hid isC5
      have BC5 := Lib.hid bC5
      have hlC := bC5.lt
      have hlM := World.block_lt_of_cell? w5 _ m0
      simp only at hlM
      clear bC5 isC5 hk' BE9 HVN
      gi_wp2
      refine wpIn_region_gj (J := GJ _ (fun _ => S14 C (.slice pm (limbs N).length cm) (.slice b3 (limbs ch.od).length d3) (.slice b1 (limbs ch.den).length d1) (N - ch.od) k') (fun _ _ w => Below w5.heap.size w5 w) _) (by kernel_rfl) ?_ ?_ (GJ.start (below_dr (Below.refl _ _)))
      · intro listed a w9 i hr hj
        obtain ⟨hi12, hun, _, _, _⟩ := ready_mem hr
        have h12 : i ∈ List.range 12 := List.mem_range.2 hi12
        simp only [List.range, List.range.loop, List.mem_cons, List.not_mem_nil, or_false] at h12
        obtain ⟨f, rfl, hcm, hf⟩ := hj.opened [59, 60, 61, 62, 63, 64, 65, 58, 66, 67, 10, 11] (by kernel_rfl)
        have hcm : Below w5.heap.size w5 w9 := hcm
        rcases h12 with rfl | rfl | rfl | rfl | rfl | rfl | rfl | rfl | rfl | rfl | rfl | rfl
        · have m3 := keep_cell hcm m0
          refine GJ.opIn hj (by kernel_rfl) hr rfl [59, 60, 61, 62, 63, 64, 65, 58, 66, 67, 10, 11] (by kernel_rfl) (fun K hK => ?_)
          simp only [Act.put, List.foldl_cons, List.foldl_nil, List.setIfInBounds_toArray, List.set_cons_zero, List.set_cons_succ] at hK ⊢
          clear hj hf
          go_simp
          exact hK _ _ (fun k v _ _ h => h.keep (Below.refl _ _)) (fun t ht => rfl) hcm
        · have m3 := keep_cell hcm m0
          refine GJ.opIn hj (by kernel_rfl) hr rfl [59, 60, 61, 62, 63, 64, 65, 58, 66, 67, 10, 11] (by kernel_rfl) (fun K hK => ?_)
          simp only [Act.put, List.foldl_cons, List.foldl_nil, List.setIfInBounds_toArray, List.set_cons_zero, List.set_cons_succ] at hK ⊢
          clear hj hf
          go_simp
          exact hK _ _ (fun k v _ _ h => h.keep (Below.refl _ _)) (fun t ht => rfl) hcm
        · have m3 := keep_cell hcm m0
          have e1 : f 60 = .pointer (some ⟨C, 3, none⟩) := hf 1 _ _ rfl rfl (up_dep hr (by kernel_rfl))
          have z3 := keep_cell hcm x3
          refine GJ.opIn hj (by kernel_rfl) hr rfl [59, 60, 61, 62, 63, 64, 65, 58, 66, 67, 10, 11] (by kernel_rfl) (fun K hK => ?_)
          simp only [Act.put, List.foldl_cons, List.foldl_nil, List.setIfInBounds_toArray, List.set_cons_zero, List.set_cons_succ] at hK ⊢
          clear hj hf
          rw [e1] at hK ⊢
          clear e1
          go_simp
          exact hK _ _ (fun k v _ _ h => h.keep (Below.refl _ _)) (fun t ht => rfl) hcm
        · have e1 : f 59 = .slice pm (limbs N).length cm := hf 0 _ _ rfl rfl (up_dep hr (by kernel_rfl))
          have e2 : f 61 = .slice b3 (limbs ch.od).length d3 := hf 2 _ _ rfl rfl (up_dep hr (by kernel_rfl))
          refine GJ.opIn hj (by kernel_rfl) hr rfl [59, 60, 61, 62, 63, 64, 65, 58, 66, 67, 10, 11] (by kernel_rfl) (fun K hK => ?_)
          simp only [Act.put, List.foldl_cons, List.foldl_nil, List.setIfInBounds_toArray, List.set_cons_zero, List.set_cons_succ] at hK ⊢
          clear hj hf
          rw [e1, e2] at hK ⊢
          clear e1 e2
          go_simp
          refine (CallsIn.inRound l (callsIn_wide.2 (minus_n w9 _ _ N ch.od (HM5.out.after hcm) (O5.out.after hcm) hod (by omega)))).mono ?_
          rintro e w10 ⟨v10, rfl, hv10, hb10⟩
          exact hK _ _ (fun k v _ _ h => h.keep hb10) (fun t ht => hv10) (hcm.trans (hb10.mono hcm.size))
        · have m3 := keep_cell hcm m0
          refine GJ.opIn hj (by kernel_rfl) hr rfl [59, 60, 61, 62, 63, 64, 65, 58, 66, 67, 10, 11] (by kernel_rfl) (fun K hK => ?_)
          simp only [Act.put, List.foldl_cons, List.foldl_nil, List.setIfInBounds_toArray, List.set_cons_zero, List.set_cons_succ] at hK ⊢
          clear hj hf
          go_simp
          exact hK _ _ (fun k v _ _ h => h.keep (Below.refl _ _)) (fun t ht => rfl) hcm
        · have m3 := keep_cell hcm m0
          have e1 : f 63 = .pointer (some ⟨C, 1, none⟩) := hf 4 _ _ rfl rfl (up_dep hr (by kernel_rfl))
          have z1 := keep_cell hcm x1
          refine GJ.opIn hj (by kernel_rfl) hr rfl [59, 60, 61, 62, 63, 64, 65, 58, 66, 67, 10, 11] (by kernel_rfl) (fun K hK => ?_)
          simp only [Act.put, List.foldl_cons, List.foldl_nil, List.setIfInBounds_toArray, List.set_cons_zero, List.set_cons_succ] at hK ⊢
          clear hj hf
          rw [e1] at hK ⊢
          clear e1
          go_simp
          exact hK _ _ (fun k v _ _ h => h.keep (Below.refl _ _)) (fun t ht => rfl) hcm
        · have s1 : Sl w9 (f 62) (limbs (N - ch.od)) := hf 3 _ _ rfl rfl (up_dep hr (by kernel_rfl))
          have e2 : f 64 = .slice b1 (limbs ch.den).length d1 := hf 5 _ _ rfl rfl (up_dep hr (by kernel_rfl))
          refine GJ.opIn hj (by kernel_rfl) hr rfl [59, 60, 61, 62, 63, 64, 65, 58, 66, 67, 10, 11] (by kernel_rfl) (fun K hK => ?_)
          simp only [Act.put, List.foldl_cons, List.foldl_nil, List.setIfInBounds_toArray, List.set_cons_zero, List.set_cons_succ] at hK ⊢
          clear hj hf
          rw [e2] at hK ⊢
          clear e2
          go_simp
          refine (CallsIn.inRound l (callsIn_wide.2 (divide_c w9 _ _ (N - ch.od) ch.den s1 (D5.out.after hcm) k3 (by omega)))).mono ?_
          rw [HK'.out]
          rintro e w10 ⟨v10, v11, rfl, hv10, hv11, hb10⟩
          exact hK _ _ (fun k v _ _ h => h.keep hb10) (fun t ht => ⟨_, _, rfl, hv10⟩) (hcm.trans (hb10.mono hcm.size))
        · have s1 : ∃ a b, f 65 = .tuple #[a, b] ∧ Sl w9 a (limbs k') := hf 6 _ _ rfl rfl (up_dep hr (by kernel_rfl))
          obtain ⟨ta, tb, e1, s2⟩ := s1
          refine GJ.opIn hj (by kernel_rfl) hr rfl [59, 60, 61, 62, 63, 64, 65, 58, 66, 67, 10, 11] (by kernel_rfl) (fun K hK => ?_)
          simp only [Act.put, List.foldl_cons, List.foldl_nil, List.setIfInBounds_toArray, List.set_cons_zero, List.set_cons_succ] at hK ⊢
          clear hj hf
          rw [e1] at hK ⊢
          clear e1
          go_simp
          exact hK _ _ (fun k v _ _ h => h.keep (Below.refl _ _)) (fun t ht => ⟨_, _, rfl, s2⟩) hcm
        · have s1 : ∃ a b, f 58 = .tuple #[a, b] ∧ Sl w9 a (limbs k') := hf 7 _ _ rfl rfl (up_dep hr (by kernel_rfl))
          obtain ⟨ta, tb, e1, s2⟩ := s1
          refine GJ.opIn hj (by kernel_rfl) hr rfl [59, 60, 61, 62, 63, 64, 65, 58, 66, 67, 10, 11] (by kernel_rfl) (fun K hK => ?_)
          simp only [Act.put, List.foldl_cons, List.foldl_nil, List.setIfInBounds_toArray, List.set_cons_zero, List.set_cons_succ] at hK ⊢
          clear hj hf
          rw [e1] at hK ⊢
          clear e1
          go_simp
          exact hK _ _ (fun k v _ _ h => h.keep (Below.refl _ _)) (fun t ht => s2) hcm
        · have s1 : ∃ a b, f 58 = .tuple #[a, b] ∧ Sl w9 a (limbs k') := hf 7 _ _ rfl rfl (up_dep hr (by kernel_rfl))
          obtain ⟨ta, tb, e1, s2⟩ := s1
          refine GJ.opIn hj (by kernel_rfl) hr rfl [59, 60, 61, 62, 63, 64, 65, 58, 66, 67, 10, 11] (by kernel_rfl) (fun K hK => ?_)
          simp only [Act.put, List.foldl_cons, List.foldl_nil, List.setIfInBounds_toArray, List.set_cons_zero, List.set_cons_succ] at hK ⊢
          clear hj hf
          rw [e1] at hK ⊢
          clear e1
          go_simp
          exact hK _ _ (fun k v _ _ h => h.keep (Below.refl _ _)) (fun t ht => trivial) hcm
        · have s1 : Sl w9 (f 66) (limbs k') := hf 8 _ _ rfl rfl (up_dep hr (by kernel_rfl))
          refine GJ.opIn hj (by kernel_rfl) hr rfl [59, 60, 61, 62, 63, 64, 65, 58, 66, 67, 10, 11] (by kernel_rfl) (fun K hK => ?_)
          simp only [Act.put, List.foldl_cons, List.foldl_nil, List.setIfInBounds_toArray, List.set_cons_zero, List.set_cons_succ] at hK ⊢
          clear hj hf
          go_simp
          exact hK _ _ (fun k v _ _ h => h.keep (Below.refl _ _)) (fun t ht => s1) hcm
        · have e0 := hcm
          refine GJ.opIn hj (by kernel_rfl) hr rfl [59, 60, 61, 62, 63, 64, 65, 58, 66, 67, 10, 11] (by kernel_rfl) (fun K hK => ?_)
          simp only [Act.put, List.foldl_cons, List.foldl_nil, List.setIfInBounds_toArray, List.set_cons_zero, List.set_cons_succ] at hK ⊢
          clear hj hf
          go_simp
          exact hK _ _ (fun k v _ _ h => h.keep (Below.refl _ _)) (fun t ht => trivial) hcm
      · intro listed a w9a hr hj
        have hu : ∀ k, k < 12 → up listed k := fun k hk => all_up (by kernel_rfl) hj.lsize hr k hk
        obtain ⟨f, rfl, hcm, hf⟩ := hj.opened [59, 60, 61, 62, 63, 64, 65, 58, 66, 67, 10, 11] (by kernel_rfl)
        have s10 : Sl w9a (f 10) (limbs k') := hf 10 _ _ rfl rfl (hu 10 (by omega))
        have hcm' : Below w5.heap.size w5 w9a := hcm
        clear hcm hj hf hu hr
        simp only [List.foldl_cons, List.foldl_nil, List.setIfInBounds_toArray, List.set_cons_zero, List.set_cons_succ]
        obtain ⟨z10, hz10⟩ : ∃ z, f 10 = z := ⟨_, rfl⟩
        rw [hz10] at s10 ⊢
        clear hz10
        obtain ⟨px, cx, rfl, _, _⟩ := s10.shape
        have KQ := Lib.hid s10
        have HB39 : Hid (Below w3.heap.size w3 w9a) := HB35.out.trans (hcm'.mono HB35.out.size)
        have BC9 := Lib.hid (BC5.out.after hcm')
        have IC9 := Lib.hid (IC5.out.after hcm')
        obtain ⟨u0, u1, u2, u3⟩ := BC9.out.cells4
        have hlC9 := BC9.out.lt
        clear hcm' s10 x0 x1 x2 x3 m0 hlC hlM IC5 BC5 D5 O5 HM5 V5 HB35
        generalize f 59 = g59
        generalize f 60 = g60
        generalize f 61 = g61
        generalize f 62 = g62
        generalize f 63 = g63
        generalize f 64 = g64
        generalize f 65 = g65
        generalize f 58 = g58
        generalize f 66 = g66
        generalize f 67 = g67
        generalize f 11 = g11
        clear f
        gi_wp2
        refine wpIn_region_gj (J := GJ _ (fun _ => S15 (.agg #[.slice b0 (limbs ch.num).length d0, .slice b1 (limbs ch.den).length d1, .slice b2 (limbs ch.on).length d2, .slice b3 (limbs ch.od).length d3]) (.slice px (limbs k').length cx) (ch.after k') ch) (C15 w9a (fr false (ch.after k').num (ch.after k').den) (fr false ch.num ch.den)) _) (by kernel_rfl) ?_ ?_ (GJ.start ⟨below_dr (Below.refl _ _), fun h => absurd h (up_none _ _), fun h => absurd h (up_none _ _), fun h => absurd h (up_none _ _)⟩)
        · intro listed a w9 i hr hj
          obtain ⟨hi12, hun, _, _, _⟩ := ready_mem hr
          have h12 : i ∈ List.range 10 := List.mem_range.2 hi12
          simp only [List.range, List.range.loop, List.mem_cons, List.not_mem_nil, or_false] at h12
          obtain ⟨f, rfl, hcm, hf⟩ := hj.opened [68, 69, 70, 71, 72, 73, 12, 13] (by kernel_rfl)
          have hcm : C15 w9a (fr false (ch.after k').num (ch.after k').den) (fr false ch.num ch.den) listed f w9 := hcm
          rcases h12 with rfl | rfl | rfl | rfl | rfl | rfl | rfl | rfl | rfl | rfl
          · have y0 := keep_cell hcm.1 u0
            have y1 := keep_cell hcm.1 u1
            have y2 := keep_cell hcm.1 u2
            have y3 := keep_cell hcm.1 u3
            refine GJ.opIn hj (by kernel_rfl) hr rfl [68, 69, 70, 71, 72, 73, 12, 13] (by kernel_rfl) (fun K hK => ?_)
            simp only [Act.put, List.foldl_cons, List.foldl_nil, List.setIfInBounds_toArray, List.set_cons_zero, List.set_cons_succ] at hK ⊢
            clear hj hf
            go_simp
            exact hK _ _ (fun k v _ _ h => h.keep (Below.refl _ _)) (fun t ht => rfl) (hcm.keep (Below.refl _ _) (by omega) (by omega) (by omega) (by omega) rfl rfl)
          · have hcm1 := hcm.1
            refine GJ.opIn hj (by kernel_rfl) hr rfl [68, 69, 70, 71, 72, 73, 12, 13] (by kernel_rfl) (fun K hK => ?_)
            simp only [Act.put, List.foldl_cons, List.foldl_nil, List.setIfInBounds_toArray, List.set_cons_zero, List.set_cons_succ] at hK ⊢
            clear hj hf
            go_simp
            exact hK _ _ (fun k v _ _ h => h.keep (Below.refl _ _)) (fun t ht => rfl) (hcm.keep (Below.refl _ _) (by omega) (by omega) (by omega) (by omega) rfl rfl)
          · have e1 : f 68 = (.agg #[.slice b0 (limbs ch.num).length d0, .slice b1 (limbs ch.den).length d1, .slice b2 (limbs ch.on).length d2, .slice b3 (limbs ch.od).length d3]) := hf 0 _ _ rfl rfl (up_dep hr (by kernel_rfl))
            have e2 : f 69 = (.slice px (limbs k').length cx) := hf 1 _ _ rfl rfl (up_dep hr (by kernel_rfl))
            refine GJ.opIn hj (by kernel_rfl) hr rfl [68, 69, 70, 71, 72, 73, 12, 13] (by kernel_rfl) (fun K hK => ?_)
            simp only [Act.put, List.foldl_cons, List.foldl_nil, List.setIfInBounds_toArray, List.set_cons_zero, List.set_cons_succ] at hK ⊢
            clear hj hf
            rw [e1, e2] at hK ⊢
            clear e1 e2
            go_simp
            refine (CallsIn.inRound l (callsIn_wide.2 (after_c w9 _ _ ch k' (IC9.out.after hcm.1) (KQ.out.after hcm.1) LCH.out (by omega)))).mono ?_
            rintro e w10 ⟨v10, rfl, hv10, hb10⟩
            exact hK _ _ (fun k v _ _ h => h.keep hb10) (fun t ht => hv10) (hcm.keep hb10 (by omega) (by omega) (by omega) (by omega) rfl rfl)
          · have s1 : IsC w9 (f 70) (ch.after k') := hf 2 _ _ rfl rfl (up_dep hr (by kernel_rfl))
            refine GJ.opIn hj (by kernel_rfl) hr rfl [68, 69, 70, 71, 72, 73, 12, 13] (by kernel_rfl) (fun K hK => ?_)
            simp only [Act.put, List.foldl_cons, List.foldl_nil, List.setIfInBounds_toArray, List.set_cons_zero, List.set_cons_succ] at hK ⊢
            clear hj hf
            go_simp
            refine (CallsIn.inRound l (callsIn_wide.2 (chainRatio_c w9 _ _ s1))).mono ?_
            rintro e w10 ⟨v10, rfl, hv10, hb10⟩
            exact hK _ _ (fun k v _ _ h => h.keep hb10) (fun t ht => hv10) (hcm.keep hb10 (by omega) (by omega) (by omega) (by omega) rfl rfl)
          · have y0 := keep_cell hcm.1 u0
            have y1 := keep_cell hcm.1 u1
            have y2 := keep_cell hcm.1 u2
            have y3 := keep_cell hcm.1 u3
            refine GJ.opIn hj (by kernel_rfl) hr rfl [68, 69, 70, 71, 72, 73, 12, 13] (by kernel_rfl) (fun K hK => ?_)
            simp only [Act.put, List.foldl_cons, List.foldl_nil, List.setIfInBounds_toArray, List.set_cons_zero, List.set_cons_succ] at hK ⊢
            clear hj hf
            go_simp
            exact hK _ _ (fun k v _ _ h => h.keep (Below.refl _ _)) (fun t ht => rfl) (hcm.keep (Below.refl _ _) (by omega) (by omega) (by omega) (by omega) rfl rfl)
          · have e1 : f 72 = (.agg #[.slice b0 (limbs ch.num).length d0, .slice b1 (limbs ch.den).length d1, .slice b2 (limbs ch.on).length d2, .slice b3 (limbs ch.od).length d3]) := hf 4 _ _ rfl rfl (up_dep hr (by kernel_rfl))
            refine GJ.opIn hj (by kernel_rfl) hr rfl [68, 69, 70, 71, 72, 73, 12, 13] (by kernel_rfl) (fun K hK => ?_)
            simp only [Act.put, List.foldl_cons, List.foldl_nil, List.setIfInBounds_toArray, List.set_cons_zero, List.set_cons_succ] at hK ⊢
            clear hj hf
            rw [e1] at hK ⊢
            clear e1
            go_simp
            refine (CallsIn.inRound l (callsIn_wide.2 (chainRatio_c w9 _ ch (IC9.out.after hcm.1)))).mono ?_
            rintro e w10 ⟨v10, rfl, hv10, hb10⟩
            exact hK _ _ (fun k v _ _ h => h.keep hb10) (fun t ht => hv10) (hcm.keep hb10 (by omega) (by omega) (by omega) (by omega) rfl rfl)
          · have n8 : ¬ up listed 8 := fun h => not_up hun (hj.closed 8 6 h (by kernel_rfl))
            refine GJ.opIn hj (by kernel_rfl) hr rfl [68, 69, 70, 71, 72, 73, 12, 13] (by kernel_rfl) (fun K hK => ?_)
            simp only [Act.put, List.foldl_cons, List.foldl_nil, List.setIfInBounds_toArray, List.set_cons_zero, List.set_cons_succ] at hK ⊢
            clear hj hf
            go_simp
            exact hK _ _ (fun k v _ _ h => h.keep (held_alloc (Below.refl _ _))) (fun t ht => trivial) (hcm.new6 n8 rfl rfl)
          · have n9 : ¬ up listed 9 := fun h => not_up hun (hj.closed 9 7 h (by kernel_rfl))
            refine GJ.opIn hj (by kernel_rfl) hr rfl [68, 69, 70, 71, 72, 73, 12, 13] (by kernel_rfl) (fun K hK => ?_)
            simp only [Act.put, List.foldl_cons, List.foldl_nil, List.setIfInBounds_toArray, List.set_cons_zero, List.set_cons_succ] at hK ⊢
            clear hj hf
            go_simp
            exact hK _ _ (fun k v _ _ h => h.keep (held_alloc (Below.refl _ _))) (fun t ht => trivial) (hcm.new7 n9 rfl rfl)
          · have hcl := hj.closed
            have u6 : up listed 6 := up_dep hr (by kernel_rfl)
            have u7 : up listed 7 := up_dep hr (by kernel_rfl)
            have s1 : IsF w9 (f 71) (fr false (ch.after k').num (ch.after k').den) := hf 3 _ _ rfl rfl (up_dep hr (by kernel_rfl))
            obtain ⟨blk, e1, hbw, hbl, hyes, hnot⟩ := hcm.2.1 u6
            have hz : zeroB w9 blk := hnot (not_up hun)
            obtain ⟨va, vb, e2, h1, h2⟩ := s1
            obtain ⟨pa, ca, rfl, _, _⟩ := h1.shape
            obtain ⟨pb, cb, rfl, _, _⟩ := h2.shape
            have hsz := hj.lsize
            have hlt : 8 < listed.size := by rw [hsz]; decide
            refine GJ.opIn hj (by kernel_rfl) hr rfl [68, 69, 70, 71, 72, 73, 12, 13] (by kernel_rfl) (fun K hK => ?_)
            simp only [Act.put, List.foldl_cons, List.foldl_nil, List.setIfInBounds_toArray, List.set_cons_zero, List.set_cons_succ] at hK ⊢
            clear hj hf
            obtain ⟨z0, z1, z2⟩ := Box.cells3 hz
            have q0 := Box.frozen hz 0
            have q1 := Box.frozen hz 1
            have q2 := Box.frozen hz 2
            obtain ⟨za, hza⟩ : ∃ z, f 12 = z := ⟨_, rfl⟩
            obtain ⟨zb, hzb⟩ : ∃ z, f 71 = z := ⟨_, rfl⟩
            rw [hza, hzb] at hK ⊢
            rw [hza] at e1
            rw [hzb] at e2
            subst e1 e2
            clear hzb
            go_simp
            exact hK undef _ (fun k v _ _ h => h.fx (fx_set3 blk _ _ _) (Box.noT hz)) (fun t ht => by cases ht) (hcm.put8 hlt u6 u7 (fun h => not_up hun (hcl 9 8 h (by kernel_rfl))) hza hz ⟨_, _, rfl, h1, h2⟩ hza.symm rfl)
          · have u8 : up listed 8 := up_dep hr (by kernel_rfl)
            have u6 : up listed 6 := up_dep hr (by kernel_rfl)
            have u7 : up listed 7 := up_dep hr (by kernel_rfl)
            have s1 : IsF w9 (f 73) (fr false (ch).num (ch).den) := hf 5 _ _ rfl rfl (up_dep hr (by kernel_rfl))
            obtain ⟨blk, e1, hbw, hbl, hyes, hnot⟩ := hcm.2.2.1 u7
            have hz : zeroB w9 blk := hnot (not_up hun)
            obtain ⟨va, vb, e2, h1, h2⟩ := s1
            obtain ⟨pa, ca, rfl, _, _⟩ := h1.shape
            obtain ⟨pb, cb, rfl, _, _⟩ := h2.shape
            have hsz := hj.lsize
            have hlt : 9 < listed.size := by rw [hsz]; decide
            refine GJ.opIn hj (by kernel_rfl) hr rfl [68, 69, 70, 71, 72, 73, 12, 13] (by kernel_rfl) (fun K hK => ?_)
            simp only [Act.put, List.foldl_cons, List.foldl_nil, List.setIfInBounds_toArray, List.set_cons_zero, List.set_cons_succ] at hK ⊢
            clear hj hf
            obtain ⟨z0, z1, z2⟩ := Box.cells3 hz
            have q0 := Box.frozen hz 0
            have q1 := Box.frozen hz 1
            have q2 := Box.frozen hz 2
            obtain ⟨za, hza⟩ : ∃ z, f 13 = z := ⟨_, rfl⟩
            obtain ⟨zb, hzb⟩ : ∃ z, f 73 = z := ⟨_, rfl⟩
            rw [hza, hzb] at hK ⊢
            rw [hza] at e1
            rw [hzb] at e2
            subst e1 e2
            clear hzb
            go_simp
            exact hK undef _ (fun k v _ _ h => h.fx (fx_set3 blk _ _ _) (Box.noT hz)) (fun t ht => by cases ht) (hcm.put9 hlt u6 u7 u8 hza hz ⟨_, _, rfl, h1, h2⟩ rfl hza.symm)
        · intro listed a w10 hr hj
          have hu : ∀ k, k < 10 → up listed k := fun k hk => all_up (by kernel_rfl) hj.lsize hr k hk
          obtain ⟨f, rfl, hcm, hf⟩ := hj.opened [68, 69, 70, 71, 72, 73, 12, 13] (by kernel_rfl)
          obtain ⟨k1b, k2b, k3b, k4b⟩ : C15 w9a (fr false (ch.after k').num (ch.after k').den) (fr false ch.num ch.den) listed f w10 := hcm
          have u6 := hu 6 (by omega)
          have u7 := hu 7 (by omega)
          obtain ⟨B12, e12, g12, hb12, hv12, _⟩ := k2b u6
          obtain ⟨B13, e13, g13, hb13, hv13, _⟩ := k3b u7
          have V12 := hv12 (hu 8 (by omega))
          have V13 := hv13 (hu 9 (by omega))
          have hne : B12 ≠ B13 := fun e => k4b u6 u7 (by rw [e12, e13, e])
          clear hf hj hr k2b k3b k4b hv12 hv13 u6 u7 hu
          simp only [List.foldl_cons, List.foldl_nil, List.setIfInBounds_toArray, List.set_cons_zero, List.set_cons_succ]
          rw [e12, e13]
          clear e12 e13
          generalize f 68 = g68
          generalize f 69 = g69
          generalize f 70 = g70
          generalize f 71 = g71
          generalize f 72 = g72
          generalize f 73 = g73
          clear f
          have HB310 : Hid (Below w3.heap.size w3 w10) := HB39.out.trans (k1b.mono HB39.out.size)
          have hB12 : w3.heap.size ≤ B12 := Nat.le_trans HB39.out.size g12
          have hB13 : w3.heap.size ≤ B13 := Nat.le_trans HB39.out.size g13
          obtain ⟨va, vb, bx12, s1, s2⟩ := V12
          obtain ⟨vc, vd, bx13, s3, s4⟩ := V13
          replace s1 : Sl w10 va (limbs (ch.after k').num) := s1
          replace s2 : Sl w10 vb (limbs (ch.after k').den) := s2
          replace s3 : Sl w10 vc (limbs ch.num) := s3
          replace s4 : Sl w10 vd (limbs ch.den) := s4
          obtain ⟨p2, k2', rfl, _, _⟩ := s1.shape
          obtain ⟨p3, k3', rfl, _, _⟩ := s2.shape
          obtain ⟨p4, k4', rfl, _, _⟩ := s3.shape
          obtain ⟨p5, k5', rfl, _, _⟩ := s4.shape
          have HY : Hid (nearK N ch = ch.after k') := by show _ = _; unfold nearK; rw [HK'.out]
          have hyn : (limbs (ch.after k').num).length ≤ 32 := Nat.le_trans (limbs_len_mono (show (ch.after k').num ≤ a by have := HY.out; rw [← this]; exact k1)) la
          have hyd : (limbs (ch.after k').den).length ≤ 32 := Nat.le_trans (limbs_len_mono (show (ch.after k').den ≤ b by have := HY.out; rw [← this]; omega)) lb
          have hzn : (limbs ch.num).length ≤ 32 := Nat.le_trans (limbs_len_mono l1) la
          have hzd : (limbs ch.den).length ≤ 32 := Nat.le_trans (limbs_len_mono l3) lb
          have HFIN2 : Hid (nearC s a b N fin = pickF a b (s && decide (0 < (ch.after k').num)) (s && decide (0 < ch.num)) (ch.after k').num (ch.after k').den ch.num ch.den) := by
            show _ = _
            unfold nearC
            rw [← HFC.out, HY.out]
          obtain ⟨y, hy⟩ : ∃ y, ch.after k' = y := ⟨_, rfl⟩
          rw [hy] at s1 s2 bx12 hyn hyd HFIN2
          clear hy HK' HY k1 k2 k3 k4 l1 l2 l3 l4 HFC
          obtain ⟨yb, hyb⟩ : ∃ yb, decide (0 < (limbs y.num).length) = yb := ⟨_, rfl⟩
          obtain ⟨zb, hzb⟩ : ∃ zb, decide (0 < (limbs ch.num).length) = zb := ⟨_, rfl⟩
          have hyb' : decide ((0 : Int) < ((limbs y.num).length : Int)) = yb := by rw [← hyb]; exact decide_eq_decide.2 (by omega)
          have hzb' : decide ((0 : Int) < ((limbs ch.num).length : Int)) = zb := by rw [← hzb]; exact decide_eq_decide.2 (by omega)
          have HYB : Hid (decide (0 < y.num) = yb) := by
            show _ = _
            rw [← hyb]
            exact decide_eq_decide.2 ⟨limbs_len_pos, fun h => by rcases Nat.eq_zero_or_pos y.num with h0 | h0; rw [h0, limbs_zero] at h; simp at h; exact h0⟩
          have HZB : Hid (decide (0 < ch.num) = zb) := by
            show _ = _
            rw [← hzb]
            exact decide_eq_decide.2 ⟨limbs_len_pos, fun h => by rcases Nat.eq_zero_or_pos ch.num with h0 | h0; rw [h0, limbs_zero] at h; simp at h; exact h0⟩
          rw [HYB.out, HZB.out] at HFIN2
          have S1 := Lib.hid s1
          have S2 := Lib.hid s2
          have S3 := Lib.hid s3
          have S4 := Lib.hid s4
          have hXlt : w.heap.size < w3.heap.size := BXr.out.lt
          obtain ⟨V0, hV0⟩ : ∃ V0, V0 = w10.drew := ⟨_, rfl⟩
          obtain ⟨V1, hV1⟩ : ∃ V1, V1 = V0.setCell ⟨B12, 0, none⟩ (.bool (s && yb)) := ⟨_, rfl⟩
          obtain ⟨V2, hV2⟩ : ∃ V2, V2 = V1.setCell ⟨B13, 0, none⟩ (.bool (s && zb)) := ⟨_, rfl⟩
          have hb0' : Below w10.heap.size w10 V0 := hV0 ▸ below_dr (Below.refl _ _)
          have b12 := bx12.after hb0'
          have b13 := bx13.after hb0'
          have b12' : Box V1 B12 #[.bool (s && yb), .slice p2 (limbs y.num).length k2', .slice p3 (limbs y.den).length k3'] 25 := by rw [hV1]; simpa using b12.set 0 (.bool (s && yb))
          have b13' := (show Box V1 B13 _ _ from hV1 ▸ b13.far (show B13 ≠ B12 from fun e => hne e.symm) (.bool (s && yb)))
          have b12'' := (show Box V2 B12 _ _ from hV2 ▸ b12'.far (show B12 ≠ B13 from hne) (.bool (s && zb)))
          have b13'' : Box V2 B13 #[.bool (s && zb), .slice p4 (limbs ch.num).length k4', .slice p5 (limbs ch.den).length k5'] 25 := by rw [hV2]; simpa using b13'.set 0 (.bool (s && zb))
          have hV30 : Below w3.heap.size w3 V0 := HB310.out.trans (hb0'.mono HB310.out.size)
          have hV31 : Below w3.heap.size w3 V1 := hV1 ▸ hV30.setCell hB12 _
          have hV32 : Below w3.heap.size w3 V2 := hV2 ▸ hV31.setCell hB13 _
          have X3 : w3.cell? ⟨w.heap.size, 0, none⟩ = some (.bool s) := BXr.out.cell 0
          have HPW : Hid (∀ l w', C16 V0 V1 V2 l w' → w'.cell? ⟨w.heap.size, 0, none⟩ = some (.bool s) ∧ w'.cell? ⟨B12, 1, none⟩ = some (.slice p2 (limbs y.num).length k2') ∧ w'.cell? ⟨B13, 1, none⟩ = some (.slice p4 (limbs ch.num).length k4')) := fun l w' h => h.worlds (P := fun w' => w'.cell? ⟨w.heap.size, 0, none⟩ = some (.bool s) ∧ w'.cell? ⟨B12, 1, none⟩ = some (.slice p2 (limbs y.num).length k2') ∧ w'.cell? ⟨B13, 1, none⟩ = some (.slice p4 (limbs ch.num).length k4'))
            ⟨keep_cell hV30 X3, b12.cell 1, b13.cell 1⟩ ⟨keep_cell hV31 X3, b12'.cell 1, b13'.cell 1⟩ ⟨keep_cell hV32 X3, b12''.cell 1, b13''.cell 1⟩
          have HLT : Hid (∀ l w', C16 V0 V1 V2 l w' → w.heap.size < w'.heap.size ∧ B12 < w'.heap.size ∧ B13 < w'.heap.size) := fun l w' h => h.worlds (P := fun w' => w.heap.size < w'.heap.size ∧ B12 < w'.heap.size ∧ B13 < w'.heap.size)
            ⟨by have := hV30.size; omega, b12.lt, b13.lt⟩ ⟨by have := hV31.size; omega, b12'.lt, b13'.lt⟩ ⟨by have := hV32.size; omega, b12''.lt, b13''.lt⟩
          have HV1 := Lib.hid hV1
          have HV2 := Lib.hid hV2
          have HV0 := Lib.hid hV0
          have HV32 := Lib.hid hV32
          have C0 : V0.cell? ⟨B12, 0, none⟩ = some (.bool false) := b12.cell 0
          have C1 : V1.cell? ⟨B13, 0, none⟩ = some (.bool false) := b13'.cell 0
          have F0' := b12.frozen 0
          have F1' := b13'.frozen 0
          have L0 := b12.lt
          have L1 := b13'.lt
          have HF : Hid (Fx (fun g => g = B12 ∨ g = B13) w10 V2) := by
            have f1 : Fx (fun g => g = B12 ∨ g = B13) w10 V1 := hV1 ▸ (((Fx.refl _ w10).below hb0').of (grown_set V0 B12 0 _) (.inl rfl))
            exact hV2 ▸ (f1.of (grown_set V1 B13 0 _) (.inr rfl))
          have HNO : Hid (∀ g, (g = B12 ∨ g = B13) → ¬ Tag32 w10 g) := fun g h => by
            rcases h with h | h
            · exact bx12.noT g h
            · exact bx13.noT g h
          have W12 := Lib.hid b12''
          have W13 := Lib.hid b13''
          clear hV0 hV1 hV2 hb0' b12 b13 b12' b13' b12'' b13'' hV30 hV31 hV32 X3 bx12 bx13 s1 s2 s3 s4 k1b hb12 hb13 g12 g13 hlC9 u0 u1 u2 u3
          cases s with
          | true =>
            gi_wp2
            refine wpIn_region_gj (J := GJ _ (fun _ k v _ => S16 w.heap.size B12 B13 true (.int .i64 ((limbs y.num).length : Int)) (.int .i64 ((limbs ch.num).length : Int)) (.slice p2 (limbs y.num).length k2') (.slice p4 (limbs ch.num).length k4') yb zb k v) (fun l _ w => C16 V0 V1 V2 l w) _) (by kernel_rfl) ?_ ?_ (GJ.start ⟨fun _ => HV0.out.symm, fun h => absurd h (up_none _ _), fun h => absurd h (up_none _ _)⟩)
            · intro listed a w9 i hr hj
              obtain ⟨hi12, hun, _, _, _⟩ := ready_mem hr
              have h12 : i ∈ List.range 20 := List.mem_range.2 hi12
              simp only [List.range, List.range.loop, List.mem_cons, List.not_mem_nil, or_false] at h12
              obtain ⟨f, rfl, hcm, hf⟩ := hj.opened [74, 75, 76, 77, 78, 79, 80, 81, 82, 83, 84, 85, 86, 87, 88, 89, 90, 91] (by kernel_rfl)
              have hcm : C16 V0 V1 V2 listed w9 := hcm
              rcases h12 with rfl | rfl | rfl | rfl | rfl | rfl | rfl | rfl | rfl | rfl | rfl | rfl | rfl | rfl | rfl | rfl | rfl | rfl | rfl | rfl
              · have P := HPW.out _ _ hcm
                have P0c := P.1
                have P1c := P.2.1
                have P2c := P.2.2
                have Q := HLT.out _ _ hcm
                have Q0c := Q.1
                have Q1c := Q.2.1
                have Q2c := Q.2.2
                clear P Q
                refine GJ.opIn hj (by kernel_rfl) hr rfl [74, 75, 76, 77, 78, 79, 80, 81, 82, 83, 84, 85, 86, 87, 88, 89, 90, 91] (by kernel_rfl) (fun K hK => ?_)
                simp only [Act.put, List.foldl_cons, List.foldl_nil, List.setIfInBounds_toArray, List.set_cons_zero, List.set_cons_succ] at hK ⊢
                clear hj hf
                go_simp
                exact hK _ _ (fun k v _ _ h => h) (fun t ht => rfl) (hcm.keep (by omega) (by omega))
              · have e1 : f 74 = .pointer (some ⟨w.heap.size, 0, none⟩) := hf 0 _ _ rfl rfl (up_dep hr (by kernel_rfl))
                have P := HPW.out _ _ hcm
                have P0c := P.1
                have P1c := P.2.1
                have P2c := P.2.2
                have Q := HLT.out _ _ hcm
                have Q0c := Q.1
                have Q1c := Q.2.1
                have Q2c := Q.2.2
                clear P Q
                refine GJ.opIn hj (by kernel_rfl) hr rfl [74, 75, 76, 77, 78, 79, 80, 81, 82, 83, 84, 85, 86, 87, 88, 89, 90, 91] (by kernel_rfl) (fun K hK => ?_)
                simp only [Act.put, List.foldl_cons, List.foldl_nil, List.setIfInBounds_toArray, List.set_cons_zero, List.set_cons_succ] at hK ⊢
                clear hj hf
                rw [e1] at hK ⊢
                clear e1
                go_simp
                exact hK _ _ (fun k v _ _ h => h) (fun t ht => rfl) (hcm.keep (by omega) (by omega))
              · have e1 : f 75 = .bool true := hf 1 _ _ rfl rfl (up_dep hr (by kernel_rfl))
                refine GJ.opIn hj (by kernel_rfl) hr rfl [74, 75, 76, 77, 78, 79, 80, 81, 82, 83, 84, 85, 86, 87, 88, 89, 90, 91] (by kernel_rfl) (fun K hK => ?_)
                simp only [Act.put, List.foldl_cons, List.foldl_nil, List.setIfInBounds_toArray, List.set_cons_zero, List.set_cons_succ] at hK ⊢
                clear hj hf
                rw [e1] at hK ⊢
                clear e1
                go_simp
                exact hK _ _ (fun k v _ _ h => h) (fun t ht => rfl) (hcm.keep (by omega) (by omega))
              · have gg := hj.got 2 _ _ rfl rfl (up_dep hr (by kernel_rfl))
                have P := HPW.out _ _ hcm
                have P0c := P.1
                have P1c := P.2.1
                have P2c := P.2.2
                have Q := HLT.out _ _ hcm
                have Q0c := Q.1
                have Q1c := Q.2.1
                have Q2c := Q.2.2
                clear P Q
                refine GJ.opYes hj (by kernel_rfl) hr rfl [74, 75, 76, 77, 78, 79, 80, 81, 82, 83, 84, 85, 86, 87, 88, 89, 90, 91] (by kernel_rfl) rfl (j := 2) rfl rfl (c := true) gg rfl (fun K hK => ?_)
                simp only [Act.put, List.foldl_cons, List.foldl_nil, List.setIfInBounds_toArray, List.set_cons_zero, List.set_cons_succ] at hK ⊢
                clear hj hf
                go_simp
                exact hK _ _ (fun k v _ _ h => h) (fun t ht => fun _ => rfl) (hcm.keep (by omega) (by omega))
              · have gg := hj.got 2 _ _ rfl rfl (up_dep hr (by kernel_rfl))
                have e2 : f 77 = .pointer (some ⟨B12, 1, none⟩) := hf 3 _ _ rfl rfl (up_dep hr (by kernel_rfl)) rfl
                have P := HPW.out _ _ hcm
                have P0c := P.1
                have P1c := P.2.1
                have P2c := P.2.2
                have Q := HLT.out _ _ hcm
                have Q0c := Q.1
                have Q1c := Q.2.1
                have Q2c := Q.2.2
                clear P Q
                refine GJ.opYes hj (by kernel_rfl) hr rfl [74, 75, 76, 77, 78, 79, 80, 81, 82, 83, 84, 85, 86, 87, 88, 89, 90, 91] (by kernel_rfl) rfl (j := 2) rfl rfl (c := true) gg rfl (fun K hK => ?_)
                simp only [Act.put, List.foldl_cons, List.foldl_nil, List.setIfInBounds_toArray, List.set_cons_zero, List.set_cons_succ] at hK ⊢
                clear hj hf
                rw [e2] at hK ⊢
                clear e2
                go_simp
                exact hK _ _ (fun k v _ _ h => h) (fun t ht => fun _ => rfl) (hcm.keep (by omega) (by omega))
              · have gg := hj.got 2 _ _ rfl rfl (up_dep hr (by kernel_rfl))
                have e2 : f 78 = (.slice p2 (limbs y.num).length k2') := hf 4 _ _ rfl rfl (up_dep hr (by kernel_rfl)) rfl
                refine GJ.opYes hj (by kernel_rfl) hr rfl [74, 75, 76, 77, 78, 79, 80, 81, 82, 83, 84, 85, 86, 87, 88, 89, 90, 91] (by kernel_rfl) rfl (j := 2) rfl rfl (c := true) gg rfl (fun K hK => ?_)
                simp only [Act.put, List.foldl_cons, List.foldl_nil, List.setIfInBounds_toArray, List.set_cons_zero, List.set_cons_succ] at hK ⊢
                clear hj hf
                rw [e2] at hK ⊢
                clear e2
                go_simp
                exact hK _ _ (fun k v _ _ h => h) (fun t ht => fun _ => rfl) (hcm.keep (by omega) (by omega))
              · have gg := hj.got 2 _ _ rfl rfl (up_dep hr (by kernel_rfl))
                have e2 : f 79 = .int .i64 ((limbs y.num).length : Int) := hf 5 _ _ rfl rfl (up_dep hr (by kernel_rfl)) rfl
                refine GJ.opYes hj (by kernel_rfl) hr rfl [74, 75, 76, 77, 78, 79, 80, 81, 82, 83, 84, 85, 86, 87, 88, 89, 90, 91] (by kernel_rfl) rfl (j := 2) rfl rfl (c := true) gg rfl (fun K hK => ?_)
                simp only [Act.put, List.foldl_cons, List.foldl_nil, List.setIfInBounds_toArray, List.set_cons_zero, List.set_cons_succ] at hK ⊢
                clear hj hf
                rw [e2] at hK ⊢
                clear e2
                go_simp
                exact hK _ _ (fun k v _ _ h => h) (fun t ht => fun _ => rfl) (hcm.keep (by omega) (by omega))
              · have e1 : f 76 = .bool true := hf 2 _ _ rfl rfl (up_dep hr (by kernel_rfl))
                have e2 : f 80 = .bool yb := hf 6 _ _ rfl rfl (up_dep hr (by kernel_rfl)) rfl
                refine GJ.opIn hj (by kernel_rfl) hr rfl [74, 75, 76, 77, 78, 79, 80, 81, 82, 83, 84, 85, 86, 87, 88, 89, 90, 91] (by kernel_rfl) (fun K hK => ?_)
                simp only [Act.put, List.foldl_cons, List.foldl_nil, List.setIfInBounds_toArray, List.set_cons_zero, List.set_cons_succ] at hK ⊢
                clear hj hf
                rw [e1, e2] at hK ⊢
                clear e1 e2
                go_simp
                exact hK _ _ (fun k v _ _ h => h) (fun t ht => rfl) (hcm.keep (by omega) (by omega))
              · have P := HPW.out _ _ hcm
                have P0c := P.1
                have P1c := P.2.1
                have P2c := P.2.2
                have Q := HLT.out _ _ hcm
                have Q0c := Q.1
                have Q1c := Q.2.1
                have Q2c := Q.2.2
                clear P Q
                refine GJ.opIn hj (by kernel_rfl) hr rfl [74, 75, 76, 77, 78, 79, 80, 81, 82, 83, 84, 85, 86, 87, 88, 89, 90, 91] (by kernel_rfl) (fun K hK => ?_)
                simp only [Act.put, List.foldl_cons, List.foldl_nil, List.setIfInBounds_toArray, List.set_cons_zero, List.set_cons_succ] at hK ⊢
                clear hj hf
                go_simp
                exact hK _ _ (fun k v _ _ h => h) (fun t ht => rfl) (hcm.keep (by omega) (by omega))
              · have e1 : f 82 = .pointer (some ⟨w.heap.size, 0, none⟩) := hf 8 _ _ rfl rfl (up_dep hr (by kernel_rfl))
                have P := HPW.out _ _ hcm
                have P0c := P.1
                have P1c := P.2.1
                have P2c := P.2.2
                have Q := HLT.out _ _ hcm
                have Q0c := Q.1
                have Q1c := Q.2.1
                have Q2c := Q.2.2
                clear P Q
                refine GJ.opIn hj (by kernel_rfl) hr rfl [74, 75, 76, 77, 78, 79, 80, 81, 82, 83, 84, 85, 86, 87, 88, 89, 90, 91] (by kernel_rfl) (fun K hK => ?_)
                simp only [Act.put, List.foldl_cons, List.foldl_nil, List.setIfInBounds_toArray, List.set_cons_zero, List.set_cons_succ] at hK ⊢
                clear hj hf
                rw [e1] at hK ⊢
                clear e1
                go_simp
                exact hK _ _ (fun k v _ _ h => h) (fun t ht => rfl) (hcm.keep (by omega) (by omega))
              · have e1 : f 83 = .bool true := hf 9 _ _ rfl rfl (up_dep hr (by kernel_rfl))
                refine GJ.opIn hj (by kernel_rfl) hr rfl [74, 75, 76, 77, 78, 79, 80, 81, 82, 83, 84, 85, 86, 87, 88, 89, 90, 91] (by kernel_rfl) (fun K hK => ?_)
                simp only [Act.put, List.foldl_cons, List.foldl_nil, List.setIfInBounds_toArray, List.set_cons_zero, List.set_cons_succ] at hK ⊢
                clear hj hf
                rw [e1] at hK ⊢
                clear e1
                go_simp
                exact hK _ _ (fun k v _ _ h => h) (fun t ht => rfl) (hcm.keep (by omega) (by omega))
              · have gg := hj.got 10 _ _ rfl rfl (up_dep hr (by kernel_rfl))
                have P := HPW.out _ _ hcm
                have P0c := P.1
                have P1c := P.2.1
                have P2c := P.2.2
                have Q := HLT.out _ _ hcm
                have Q0c := Q.1
                have Q1c := Q.2.1
                have Q2c := Q.2.2
                clear P Q
                refine GJ.opYes hj (by kernel_rfl) hr rfl [74, 75, 76, 77, 78, 79, 80, 81, 82, 83, 84, 85, 86, 87, 88, 89, 90, 91] (by kernel_rfl) rfl (j := 10) rfl rfl (c := true) gg rfl (fun K hK => ?_)
                simp only [Act.put, List.foldl_cons, List.foldl_nil, List.setIfInBounds_toArray, List.set_cons_zero, List.set_cons_succ] at hK ⊢
                clear hj hf
                go_simp
                exact hK _ _ (fun k v _ _ h => h) (fun t ht => fun _ => rfl) (hcm.keep (by omega) (by omega))
              · have gg := hj.got 10 _ _ rfl rfl (up_dep hr (by kernel_rfl))
                have e2 : f 85 = .pointer (some ⟨B13, 1, none⟩) := hf 11 _ _ rfl rfl (up_dep hr (by kernel_rfl)) rfl
                have P := HPW.out _ _ hcm
                have P0c := P.1
                have P1c := P.2.1
                have P2c := P.2.2
                have Q := HLT.out _ _ hcm
                have Q0c := Q.1
                have Q1c := Q.2.1
                have Q2c := Q.2.2
                clear P Q
                refine GJ.opYes hj (by kernel_rfl) hr rfl [74, 75, 76, 77, 78, 79, 80, 81, 82, 83, 84, 85, 86, 87, 88, 89, 90, 91] (by kernel_rfl) rfl (j := 10) rfl rfl (c := true) gg rfl (fun K hK => ?_)
                simp only [Act.put, List.foldl_cons, List.foldl_nil, List.setIfInBounds_toArray, List.set_cons_zero, List.set_cons_succ] at hK ⊢
                clear hj hf
                rw [e2] at hK ⊢
                clear e2
                go_simp
                exact hK _ _ (fun k v _ _ h => h) (fun t ht => fun _ => rfl) (hcm.keep (by omega) (by omega))
              · have gg := hj.got 10 _ _ rfl rfl (up_dep hr (by kernel_rfl))
                have e2 : f 86 = (.slice p4 (limbs ch.num).length k4') := hf 12 _ _ rfl rfl (up_dep hr (by kernel_rfl)) rfl
                refine GJ.opYes hj (by kernel_rfl) hr rfl [74, 75, 76, 77, 78, 79, 80, 81, 82, 83, 84, 85, 86, 87, 88, 89, 90, 91] (by kernel_rfl) rfl (j := 10) rfl rfl (c := true) gg rfl (fun K hK => ?_)
                simp only [Act.put, List.foldl_cons, List.foldl_nil, List.setIfInBounds_toArray, List.set_cons_zero, List.set_cons_succ] at hK ⊢
                clear hj hf
                rw [e2] at hK ⊢
                clear e2
                go_simp
                exact hK _ _ (fun k v _ _ h => h) (fun t ht => fun _ => rfl) (hcm.keep (by omega) (by omega))
              · have gg := hj.got 10 _ _ rfl rfl (up_dep hr (by kernel_rfl))
                have e2 : f 87 = .int .i64 ((limbs ch.num).length : Int) := hf 13 _ _ rfl rfl (up_dep hr (by kernel_rfl)) rfl
                refine GJ.opYes hj (by kernel_rfl) hr rfl [74, 75, 76, 77, 78, 79, 80, 81, 82, 83, 84, 85, 86, 87, 88, 89, 90, 91] (by kernel_rfl) rfl (j := 10) rfl rfl (c := true) gg rfl (fun K hK => ?_)
                simp only [Act.put, List.foldl_cons, List.foldl_nil, List.setIfInBounds_toArray, List.set_cons_zero, List.set_cons_succ] at hK ⊢
                clear hj hf
                rw [e2] at hK ⊢
                clear e2
                go_simp
                exact hK _ _ (fun k v _ _ h => h) (fun t ht => fun _ => rfl) (hcm.keep (by omega) (by omega))
              · have e1 : f 84 = .bool true := hf 10 _ _ rfl rfl (up_dep hr (by kernel_rfl))
                have e2 : f 88 = .bool zb := hf 14 _ _ rfl rfl (up_dep hr (by kernel_rfl)) rfl
                refine GJ.opIn hj (by kernel_rfl) hr rfl [74, 75, 76, 77, 78, 79, 80, 81, 82, 83, 84, 85, 86, 87, 88, 89, 90, 91] (by kernel_rfl) (fun K hK => ?_)
                simp only [Act.put, List.foldl_cons, List.foldl_nil, List.setIfInBounds_toArray, List.set_cons_zero, List.set_cons_succ] at hK ⊢
                clear hj hf
                rw [e1, e2] at hK ⊢
                clear e1 e2
                go_simp
                exact hK _ _ (fun k v _ _ h => h) (fun t ht => rfl) (hcm.keep (by omega) (by omega))
              · have P := HPW.out _ _ hcm
                have P0c := P.1
                have P1c := P.2.1
                have P2c := P.2.2
                have Q := HLT.out _ _ hcm
                have Q0c := Q.1
                have Q1c := Q.2.1
                have Q2c := Q.2.2
                clear P Q
                refine GJ.opIn hj (by kernel_rfl) hr rfl [74, 75, 76, 77, 78, 79, 80, 81, 82, 83, 84, 85, 86, 87, 88, 89, 90, 91] (by kernel_rfl) (fun K hK => ?_)
                simp only [Act.put, List.foldl_cons, List.foldl_nil, List.setIfInBounds_toArray, List.set_cons_zero, List.set_cons_succ] at hK ⊢
                clear hj hf
                go_simp
                exact hK _ _ (fun k v _ _ h => h) (fun t ht => rfl) (hcm.keep (by omega) (by omega))
              · have e1 : f 90 = .pointer (some ⟨B12, 0, none⟩) := hf 16 _ _ rfl rfl (up_dep hr (by kernel_rfl))
                have e2 : f 81 = .bool (true && yb) := hf 7 _ _ rfl rfl (up_dep hr (by kernel_rfl))
                have n19 : ¬ up listed 19 := fun h => not_up hun (hj.closed 19 17 h (by kernel_rfl))
                have hw9 := hcm.1 (not_up hun)
                have hsz := hj.lsize
                have hlt : 17 < listed.size := by rw [hsz]; decide
                subst hw9
                refine GJ.opIn hj (by kernel_rfl) hr rfl [74, 75, 76, 77, 78, 79, 80, 81, 82, 83, 84, 85, 86, 87, 88, 89, 90, 91] (by kernel_rfl) (fun K hK => ?_)
                simp only [Act.put, List.foldl_cons, List.foldl_nil, List.setIfInBounds_toArray, List.set_cons_zero, List.set_cons_succ] at hK ⊢
                clear hj hf
                rw [e1, e2] at hK ⊢
                clear e1 e2
                go_simp
                exact hK undef _ (fun k v _ _ h => h) (fun t ht => by cases ht) (hcm.put17 hlt n19 HV1.out)
              · have P := HPW.out _ _ hcm
                have P0c := P.1
                have P1c := P.2.1
                have P2c := P.2.2
                have Q := HLT.out _ _ hcm
                have Q0c := Q.1
                have Q1c := Q.2.1
                have Q2c := Q.2.2
                clear P Q
                refine GJ.opIn hj (by kernel_rfl) hr rfl [74, 75, 76, 77, 78, 79, 80, 81, 82, 83, 84, 85, 86, 87, 88, 89, 90, 91] (by kernel_rfl) (fun K hK => ?_)
                simp only [Act.put, List.foldl_cons, List.foldl_nil, List.setIfInBounds_toArray, List.set_cons_zero, List.set_cons_succ] at hK ⊢
                clear hj hf
                go_simp
                exact hK _ _ (fun k v _ _ h => h) (fun t ht => rfl) (hcm.keep (by omega) (by omega))
              · have e1 : f 91 = .pointer (some ⟨B13, 0, none⟩) := hf 18 _ _ rfl rfl (up_dep hr (by kernel_rfl))
                have e2 : f 89 = .bool (true && zb) := hf 15 _ _ rfl rfl (up_dep hr (by kernel_rfl))
                have u17 : up listed 17 := up_dep hr (by kernel_rfl)
                have hw9 := hcm.2.1 u17 (not_up hun)
                have hsz := hj.lsize
                have hlt : 19 < listed.size := by rw [hsz]; decide
                subst hw9
                refine GJ.opIn hj (by kernel_rfl) hr rfl [74, 75, 76, 77, 78, 79, 80, 81, 82, 83, 84, 85, 86, 87, 88, 89, 90, 91] (by kernel_rfl) (fun K hK => ?_)
                simp only [Act.put, List.foldl_cons, List.foldl_nil, List.setIfInBounds_toArray, List.set_cons_zero, List.set_cons_succ] at hK ⊢
                clear hj hf
                rw [e1, e2] at hK ⊢
                clear e1 e2
                go_simp
                exact hK undef _ (fun k v _ _ h => h) (fun t ht => by cases ht) (hcm.put19 hlt u17 HV2.out)
            · intro listed a w11 hr hj
              have hu : ∀ k, k < 20 → up listed k := fun k hk => all_up (by kernel_rfl) hj.lsize hr k hk
              obtain ⟨f, rfl, hcm, hf⟩ := hj.opened [74, 75, 76, 77, 78, 79, 80, 81, 82, 83, 84, 85, 86, 87, 88, 89, 90, 91] (by kernel_rfl)
              have hw : w11 = V2 := (hcm.2.2 (hu 19 (by omega))).2
              clear hcm hf hj hr hu
              simp only [List.foldl_cons, List.foldl_nil, List.setIfInBounds_toArray, List.set_cons_zero, List.set_cons_succ]
              rw [hw]
              clear hw
              generalize f 74 = g74
              generalize f 75 = g75
              generalize f 76 = g76
              generalize f 77 = g77
              generalize f 78 = g78
              generalize f 79 = g79
              generalize f 80 = g80
              generalize f 81 = g81
              generalize f 82 = g82
              generalize f 83 = g83
              generalize f 84 = g84
              generalize f 85 = g85
              generalize f 86 = g86
              generalize f 87 = g87
              generalize f 88 = g88
              generalize f 89 = g89
              generalize f 90 = g90
              generalize f 91 = g91
              clear f HPW HLT C0 C1 F0' F1' L0 L1 HV0 HV1 HV2
              have W12' : Hid (Box V2 B12 #[.bool yb, .slice p2 (limbs y.num).length k2', .slice p3 (limbs y.den).length k3'] 25) := W12.out
              have W13' : Hid (Box V2 B13 #[.bool zb, .slice p4 (limbs ch.num).length k4', .slice p5 (limbs ch.den).length k5'] 25) := W13.out
              have HFIN3 : Hid (nearC true a b N fin = pickF a b yb zb y.num y.den ch.num ch.den) := HFIN2.out
              have HXV : Hid (IsF V2 (.agg #[.bool true, .slice p0 (limbs a).length k0, .slice p1 (limbs b).length k1]) (fr true a b)) := HXr.out.after HV32.out
              have HYV : Hid (IsF V2 (.agg #[.bool yb, .slice p2 (limbs y.num).length k2', .slice p3 (limbs y.den).length k3']) (fr yb y.num y.den)) := ⟨_, _, rfl, S1.out.fx HF.out HNO.out, S2.out.fx HF.out HNO.out⟩
              have HZV : Hid (IsF V2 (.agg #[.bool zb, .slice p4 (limbs ch.num).length k4', .slice p5 (limbs ch.den).length k5']) (fr zb ch.num ch.den)) := ⟨_, _, rfl, S3.out.fx HF.out HNO.out, S4.out.fx HF.out HNO.out⟩
              have bxv := BXr.out.after HV32.out
              obtain ⟨c0, c1, c2⟩ := bxv.cells3
              obtain ⟨d0, d1, d2⟩ := W12'.out.cells3
              obtain ⟨x0, x1, x2⟩ := W13'.out.cells3
              have lx := bxv.lt
              have ly := W12'.out.lt
              have lz := W13'.out.lt
              clear W12 W13 HFIN2 S1 S2 S3 S4 HF HNO bxv
              gi_wp2
              refine (CallsIn.inRound l (callsIn_wide.2 (closest_c V2 _ _ _ true yb zb a b y.num y.den ch.num ch.den HXV.out HYV.out HZV.out (by omega) (by omega) (by omega) (by omega) (by omega) (by omega)))).mono ?_
              rintro e w12 ⟨v12, rfl, hv12, hb12⟩
              rw [← HFIN3.out] at hv12
              obtain ⟨X, hX⟩ : ∃ X, nearC true a b N fin = X := ⟨_, rfl⟩
              rw [hX] at hv12
              have HX := Lib.hid hX
              obtain ⟨vx, vy, rfl, i1, i2⟩ := hv12
              obtain ⟨q1, m1, rfl, _, _⟩ := i1.shape
              obtain ⟨q2, m2, rfl, _, _⟩ := i2.shape
              have hb3 := HV32.out.trans (hb12.mono HV32.out.size)
              have br := BRr.out.after hb3
              have be := BEr.out.after hb3
              obtain ⟨r0, r1, r2⟩ := br.cells3
              have f0 := br.frozen 0
              have f1 := br.frozen 1
              have f2 := br.frozen 2
              have h0 : w12.cell? ⟨w.heap.size + 1 + 1, 0, none⟩ = some (.int .i64 0) := be.cell 0
              have h1 := be.frozen 0
              have hlr := br.lt
              have hle := be.lt
              have HEND := Lib.hid (end_near (x := X) (e := 0) br be (fun _ h => by cases h) (fun _ h => by cases h) i1 i2 (HB0r.out.trans (hb3.mono HB0r.out.size)))
              have HKS := Lib.hid ((KeepSoft.of_below (B := W1.heap.size) hb3).end_near (a := .bool X.neg) (b := .slice q1 X.num.length m1) (c := .slice q2 X.den.length m2) (d := .int .i64 0) br be (by omega))
              clear hX hb12 hb3 br be i1 i2 c0 c1 c2 d0 d1 d2 x0 x1 x2
              gi_wp2
              refine ⟨?_, HKS.out⟩
              rw [HX.out]
              exact HEND.out
          | false =>
            gi_wp2
            refine wpIn_region_gj (J := GJ _ (fun _ k v _ => S16 w.heap.size B12 B13 false (.int .i64 ((limbs y.num).length : Int)) (.int .i64 ((limbs ch.num).length : Int)) (.slice p2 (limbs y.num).length k2') (.slice p4 (limbs ch.num).length k4') yb zb k v) (fun l _ w => C16 V0 V1 V2 l w) _) (by kernel_rfl) ?_ ?_ (GJ.start ⟨fun _ => HV0.out.symm, fun h => absurd h (up_none _ _), fun h => absurd h (up_none _ _)⟩)
            · intro listed a w9 i hr hj
              obtain ⟨hi12, hun, _, _, _⟩ := ready_mem hr
              have h12 : i ∈ List.range 20 := List.mem_range.2 hi12
              simp only [List.range, List.range.loop, List.mem_cons, List.not_mem_nil, or_false] at h12
              obtain ⟨f, rfl, hcm, hf⟩ := hj.opened [74, 75, 76, 77, 78, 79, 80, 81, 82, 83, 84, 85, 86, 87, 88, 89, 90, 91] (by kernel_rfl)
              have hcm : C16 V0 V1 V2 listed w9 := hcm
              rcases h12 with rfl | rfl | rfl | rfl | rfl | rfl | rfl | rfl | rfl | rfl | rfl | rfl | rfl | rfl | rfl | rfl | rfl | rfl | rfl | rfl
              · have P := HPW.out _ _ hcm
                have P0c := P.1
                have P1c := P.2.1
                have P2c := P.2.2
                have Q := HLT.out _ _ hcm
                have Q0c := Q.1
                have Q1c := Q.2.1
                have Q2c := Q.2.2
                clear P Q
                refine GJ.opIn hj (by kernel_rfl) hr rfl [74, 75, 76, 77, 78, 79, 80, 81, 82, 83, 84, 85, 86, 87, 88, 89, 90, 91] (by kernel_rfl) (fun K hK => ?_)
                simp only [Act.put, List.foldl_cons, List.foldl_nil, List.setIfInBounds_toArray, List.set_cons_zero, List.set_cons_succ] at hK ⊢
                clear hj hf
                go_simp
                exact hK _ _ (fun k v _ _ h => h) (fun t ht => rfl) (hcm.keep (by omega) (by omega))
              · have e1 : f 74 = .pointer (some ⟨w.heap.size, 0, none⟩) := hf 0 _ _ rfl rfl (up_dep hr (by kernel_rfl))
                have P := HPW.out _ _ hcm
                have P0c := P.1
                have P1c := P.2.1
                have P2c := P.2.2
                have Q := HLT.out _ _ hcm
                have Q0c := Q.1
                have Q1c := Q.2.1
                have Q2c := Q.2.2
                clear P Q
                refine GJ.opIn hj (by kernel_rfl) hr rfl [74, 75, 76, 77, 78, 79, 80, 81, 82, 83, 84, 85, 86, 87, 88, 89, 90, 91] (by kernel_rfl) (fun K hK => ?_)
                simp only [Act.put, List.foldl_cons, List.foldl_nil, List.setIfInBounds_toArray, List.set_cons_zero, List.set_cons_succ] at hK ⊢
                clear hj hf
                rw [e1] at hK ⊢
                clear e1
                go_simp
                exact hK _ _ (fun k v _ _ h => h) (fun t ht => rfl) (hcm.keep (by omega) (by omega))
              · have e1 : f 75 = .bool false := hf 1 _ _ rfl rfl (up_dep hr (by kernel_rfl))
                refine GJ.opIn hj (by kernel_rfl) hr rfl [74, 75, 76, 77, 78, 79, 80, 81, 82, 83, 84, 85, 86, 87, 88, 89, 90, 91] (by kernel_rfl) (fun K hK => ?_)
                simp only [Act.put, List.foldl_cons, List.foldl_nil, List.setIfInBounds_toArray, List.set_cons_zero, List.set_cons_succ] at hK ⊢
                clear hj hf
                rw [e1] at hK ⊢
                clear e1
                go_simp
                exact hK _ _ (fun k v _ _ h => h) (fun t ht => rfl) (hcm.keep (by omega) (by omega))
              · have gg := hj.got 2 _ _ rfl rfl (up_dep hr (by kernel_rfl))
                exact GJ.opNo hj (by kernel_rfl) hr rfl [74, 75, 76, 77, 78, 79, 80, 81, 82, 83, 84, 85, 86, 87, 88, 89, 90, 91] (by kernel_rfl) rfl (j := 2) rfl rfl (c := false) gg rfl (fun f h => by cases h) (fun k v _ _ h => h) (fun t ht h => by cases h) (hcm.keep (by omega) (by omega))
              · have gg := hj.got 2 _ _ rfl rfl (up_dep hr (by kernel_rfl))
                exact GJ.opNo hj (by kernel_rfl) hr rfl [74, 75, 76, 77, 78, 79, 80, 81, 82, 83, 84, 85, 86, 87, 88, 89, 90, 91] (by kernel_rfl) rfl (j := 2) rfl rfl (c := false) gg rfl (fun f h => by cases h) (fun k v _ _ h => h) (fun t ht h => by cases h) (hcm.keep (by omega) (by omega))
              · have gg := hj.got 2 _ _ rfl rfl (up_dep hr (by kernel_rfl))
                exact GJ.opNo hj (by kernel_rfl) hr rfl [74, 75, 76, 77, 78, 79, 80, 81, 82, 83, 84, 85, 86, 87, 88, 89, 90, 91] (by kernel_rfl) rfl (j := 2) rfl rfl (c := false) gg rfl (fun f h => by cases h) (fun k v _ _ h => h) (fun t ht h => by cases h) (hcm.keep (by omega) (by omega))
              · have gg := hj.got 2 _ _ rfl rfl (up_dep hr (by kernel_rfl))
                exact GJ.opNo hj (by kernel_rfl) hr rfl [74, 75, 76, 77, 78, 79, 80, 81, 82, 83, 84, 85, 86, 87, 88, 89, 90, 91] (by kernel_rfl) rfl (j := 2) rfl rfl (c := false) gg rfl (fun f h => by cases h) (fun k v _ _ h => h) (fun t ht h => by cases h) (hcm.keep (by omega) (by omega))
              · have e1 : f 76 = .bool false := hf 2 _ _ rfl rfl (up_dep hr (by kernel_rfl))
                refine GJ.opIn hj (by kernel_rfl) hr rfl [74, 75, 76, 77, 78, 79, 80, 81, 82, 83, 84, 85, 86, 87, 88, 89, 90, 91] (by kernel_rfl) (fun K hK => ?_)
                simp only [Act.put, List.foldl_cons, List.foldl_nil, List.setIfInBounds_toArray, List.set_cons_zero, List.set_cons_succ] at hK ⊢
                clear hj hf
                rw [e1] at hK ⊢
                clear e1
                go_simp
                exact hK _ _ (fun k v _ _ h => h) (fun t ht => rfl) (hcm.keep (by omega) (by omega))
              · have P := HPW.out _ _ hcm
                have P0c := P.1
                have P1c := P.2.1
                have P2c := P.2.2
                have Q := HLT.out _ _ hcm
                have Q0c := Q.1
                have Q1c := Q.2.1
                have Q2c := Q.2.2
                clear P Q
                refine GJ.opIn hj (by kernel_rfl) hr rfl [74, 75, 76, 77, 78, 79, 80, 81, 82, 83, 84, 85, 86, 87, 88, 89, 90, 91] (by kernel_rfl) (fun K hK => ?_)
                simp only [Act.put, List.foldl_cons, List.foldl_nil, List.setIfInBounds_toArray, List.set_cons_zero, List.set_cons_succ] at hK ⊢
                clear hj hf
                go_simp
                exact hK _ _ (fun k v _ _ h => h) (fun t ht => rfl) (hcm.keep (by omega) (by omega))
              · have e1 : f 82 = .pointer (some ⟨w.heap.size, 0, none⟩) := hf 8 _ _ rfl rfl (up_dep hr (by kernel_rfl))
                have P := HPW.out _ _ hcm
                have P0c := P.1
                have P1c := P.2.1
                have P2c := P.2.2
                have Q := HLT.out _ _ hcm
                have Q0c := Q.1
                have Q1c := Q.2.1
                have Q2c := Q.2.2
                clear P Q
                refine GJ.opIn hj (by kernel_rfl) hr rfl [74, 75, 76, 77, 78, 79, 80, 81, 82, 83, 84, 85, 86, 87, 88, 89, 90, 91] (by kernel_rfl) (fun K hK => ?_)
                simp only [Act.put, List.foldl_cons, List.foldl_nil, List.setIfInBounds_toArray, List.set_cons_zero, List.set_cons_succ] at hK ⊢
                clear hj hf
                rw [e1] at hK ⊢
                clear e1
                go_simp
                exact hK _ _ (fun k v _ _ h => h) (fun t ht => rfl) (hcm.keep (by omega) (by omega))
              · have e1 : f 83 = .bool false := hf 9 _ _ rfl rfl (up_dep hr (by kernel_rfl))
                refine GJ.opIn hj (by kernel_rfl) hr rfl [74, 75, 76, 77, 78, 79, 80, 81, 82, 83, 84, 85, 86, 87, 88, 89, 90, 91] (by kernel_rfl) (fun K hK => ?_)
                simp only [Act.put, List.foldl_cons, List.foldl_nil, List.setIfInBounds_toArray, List.set_cons_zero, List.set_cons_succ] at hK ⊢
                clear hj hf
                rw [e1] at hK ⊢
                clear e1
                go_simp
                exact hK _ _ (fun k v _ _ h => h) (fun t ht => rfl) (hcm.keep (by omega) (by omega))
              · have gg := hj.got 10 _ _ rfl rfl (up_dep hr (by kernel_rfl))
                exact GJ.opNo hj (by kernel_rfl) hr rfl [74, 75, 76, 77, 78, 79, 80, 81, 82, 83, 84, 85, 86, 87, 88, 89, 90, 91] (by kernel_rfl) rfl (j := 10) rfl rfl (c := false) gg rfl (fun f h => by cases h) (fun k v _ _ h => h) (fun t ht h => by cases h) (hcm.keep (by omega) (by omega))
              · have gg := hj.got 10 _ _ rfl rfl (up_dep hr (by kernel_rfl))
                exact GJ.opNo hj (by kernel_rfl) hr rfl [74, 75, 76, 77, 78, 79, 80, 81, 82, 83, 84, 85, 86, 87, 88, 89, 90, 91] (by kernel_rfl) rfl (j := 10) rfl rfl (c := false) gg rfl (fun f h => by cases h) (fun k v _ _ h => h) (fun t ht h => by cases h) (hcm.keep (by omega) (by omega))
              · have gg := hj.got 10 _ _ rfl rfl (up_dep hr (by kernel_rfl))
                exact GJ.opNo hj (by kernel_rfl) hr rfl [74, 75, 76, 77, 78, 79, 80, 81, 82, 83, 84, 85, 86, 87, 88, 89, 90, 91] (by kernel_rfl) rfl (j := 10) rfl rfl (c := false) gg rfl (fun f h => by cases h) (fun k v _ _ h => h) (fun t ht h => by cases h) (hcm.keep (by omega) (by omega))
              · have gg := hj.got 10 _ _ rfl rfl (up_dep hr (by kernel_rfl))
                exact GJ.opNo hj (by kernel_rfl) hr rfl [74, 75, 76, 77, 78, 79, 80, 81, 82, 83, 84, 85, 86, 87, 88, 89, 90, 91] (by kernel_rfl) rfl (j := 10) rfl rfl (c := false) gg rfl (fun f h => by cases h) (fun k v _ _ h => h) (fun t ht h => by cases h) (hcm.keep (by omega) (by omega))
              · have e1 : f 84 = .bool false := hf 10 _ _ rfl rfl (up_dep hr (by kernel_rfl))
                refine GJ.opIn hj (by kernel_rfl) hr rfl [74, 75, 76, 77, 78, 79, 80, 81, 82, 83, 84, 85, 86, 87, 88, 89, 90, 91] (by kernel_rfl) (fun K hK => ?_)
                simp only [Act.put, List.foldl_cons, List.foldl_nil, List.setIfInBounds_toArray, List.set_cons_zero, List.set_cons_succ] at hK ⊢
                clear hj hf
                rw [e1] at hK ⊢
                clear e1
                go_simp
                exact hK _ _ (fun k v _ _ h => h) (fun t ht => rfl) (hcm.keep (by omega) (by omega))
              · have P := HPW.out _ _ hcm
                have P0c := P.1
                have P1c := P.2.1
                have P2c := P.2.2
                have Q := HLT.out _ _ hcm
                have Q0c := Q.1
                have Q1c := Q.2.1
                have Q2c := Q.2.2
                clear P Q
                refine GJ.opIn hj (by kernel_rfl) hr rfl [74, 75, 76, 77, 78, 79, 80, 81, 82, 83, 84, 85, 86, 87, 88, 89, 90, 91] (by kernel_rfl) (fun K hK => ?_)
                simp only [Act.put, List.foldl_cons, List.foldl_nil, List.setIfInBounds_toArray, List.set_cons_zero, List.set_cons_succ] at hK ⊢
                clear hj hf
                go_simp
                exact hK _ _ (fun k v _ _ h => h) (fun t ht => rfl) (hcm.keep (by omega) (by omega))
              · have e1 : f 90 = .pointer (some ⟨B12, 0, none⟩) := hf 16 _ _ rfl rfl (up_dep hr (by kernel_rfl))
                have e2 : f 81 = .bool (false && yb) := hf 7 _ _ rfl rfl (up_dep hr (by kernel_rfl))
                have n19 : ¬ up listed 19 := fun h => not_up hun (hj.closed 19 17 h (by kernel_rfl))
                have hw9 := hcm.1 (not_up hun)
                have hsz := hj.lsize
                have hlt : 17 < listed.size := by rw [hsz]; decide
                subst hw9
                refine GJ.opIn hj (by kernel_rfl) hr rfl [74, 75, 76, 77, 78, 79, 80, 81, 82, 83, 84, 85, 86, 87, 88, 89, 90, 91] (by kernel_rfl) (fun K hK => ?_)
                simp only [Act.put, List.foldl_cons, List.foldl_nil, List.setIfInBounds_toArray, List.set_cons_zero, List.set_cons_succ] at hK ⊢
                clear hj hf
                rw [e1, e2] at hK ⊢
                clear e1 e2
                go_simp
                exact hK undef _ (fun k v _ _ h => h) (fun t ht => by cases ht) (hcm.put17 hlt n19 HV1.out)
              · have P := HPW.out _ _ hcm
                have P0c := P.1
                have P1c := P.2.1
                have P2c := P.2.2
                have Q := HLT.out _ _ hcm
                have Q0c := Q.1
                have Q1c := Q.2.1
                have Q2c := Q.2.2
                clear P Q
                refine GJ.opIn hj (by kernel_rfl) hr rfl [74, 75, 76, 77, 78, 79, 80, 81, 82, 83, 84, 85, 86, 87, 88, 89, 90, 91] (by kernel_rfl) (fun K hK => ?_)
                simp only [Act.put, List.foldl_cons, List.foldl_nil, List.setIfInBounds_toArray, List.set_cons_zero, List.set_cons_succ] at hK ⊢
                clear hj hf
                go_simp
                exact hK _ _ (fun k v _ _ h => h) (fun t ht => rfl) (hcm.keep (by omega) (by omega))
              · have e1 : f 91 = .pointer (some ⟨B13, 0, none⟩) := hf 18 _ _ rfl rfl (up_dep hr (by kernel_rfl))
                have e2 : f 89 = .bool (false && zb) := hf 15 _ _ rfl rfl (up_dep hr (by kernel_rfl))
                have u17 : up listed 17 := up_dep hr (by kernel_rfl)
                have hw9 := hcm.2.1 u17 (not_up hun)
                have hsz := hj.lsize
                have hlt : 19 < listed.size := by rw [hsz]; decide
                subst hw9
                refine GJ.opIn hj (by kernel_rfl) hr rfl [74, 75, 76, 77, 78, 79, 80, 81, 82, 83, 84, 85, 86, 87, 88, 89, 90, 91] (by kernel_rfl) (fun K hK => ?_)
                simp only [Act.put, List.foldl_cons, List.foldl_nil, List.setIfInBounds_toArray, List.set_cons_zero, List.set_cons_succ] at hK ⊢
                clear hj hf
                rw [e1, e2] at hK ⊢
                clear e1 e2
                go_simp
                exact hK undef _ (fun k v _ _ h => h) (fun t ht => by cases ht) (hcm.put19 hlt u17 HV2.out)
            · intro listed a w11 hr hj
              have hu : ∀ k, k < 20 → up listed k := fun k hk => all_up (by kernel_rfl) hj.lsize hr k hk
              obtain ⟨f, rfl, hcm, hf⟩ := hj.opened [74, 75, 76, 77, 78, 79, 80, 81, 82, 83, 84, 85, 86, 87, 88, 89, 90, 91] (by kernel_rfl)
              have hw : w11 = V2 := (hcm.2.2 (hu 19 (by omega))).2
              clear hcm hf hj hr hu
              simp only [List.foldl_cons, List.foldl_nil, List.setIfInBounds_toArray, List.set_cons_zero, List.set_cons_succ]
              rw [hw]
              clear hw
              generalize f 74 = g74
              generalize f 75 = g75
              generalize f 76 = g76
              generalize f 77 = g77
              generalize f 78 = g78
              generalize f 79 = g79
              generalize f 80 = g80
              generalize f 81 = g81
              generalize f 82 = g82
              generalize f 83 = g83
              generalize f 84 = g84
              generalize f 85 = g85
              generalize f 86 = g86
              generalize f 87 = g87
              generalize f 88 = g88
              generalize f 89 = g89
              generalize f 90 = g90
              generalize f 91 = g91
              clear f HPW HLT C0 C1 F0' F1' L0 L1 HV0 HV1 HV2
              have W12' : Hid (Box V2 B12 #[.bool false, .slice p2 (limbs y.num).length k2', .slice p3 (limbs y.den).length k3'] 25) := W12.out
              have W13' : Hid (Box V2 B13 #[.bool false, .slice p4 (limbs ch.num).length k4', .slice p5 (limbs ch.den).length k5'] 25) := W13.out
              have HFIN3 : Hid (nearC false a b N fin = pickF a b false false y.num y.den ch.num ch.den) := HFIN2.out
              have HXV : Hid (IsF V2 (.agg #[.bool false, .slice p0 (limbs a).length k0, .slice p1 (limbs b).length k1]) (fr false a b)) := HXr.out.after HV32.out
              have HYV : Hid (IsF V2 (.agg #[.bool false, .slice p2 (limbs y.num).length k2', .slice p3 (limbs y.den).length k3']) (fr false y.num y.den)) := ⟨_, _, rfl, S1.out.fx HF.out HNO.out, S2.out.fx HF.out HNO.out⟩
              have HZV : Hid (IsF V2 (.agg #[.bool false, .slice p4 (limbs ch.num).length k4', .slice p5 (limbs ch.den).length k5']) (fr false ch.num ch.den)) := ⟨_, _, rfl, S3.out.fx HF.out HNO.out, S4.out.fx HF.out HNO.out⟩
              have bxv := BXr.out.after HV32.out
              obtain ⟨c0, c1, c2⟩ := bxv.cells3
              obtain ⟨d0, d1, d2⟩ := W12'.out.cells3
              obtain ⟨x0, x1, x2⟩ := W13'.out.cells3
              have lx := bxv.lt
              have ly := W12'.out.lt
              have lz := W13'.out.lt
              clear W12 W13 HFIN2 S1 S2 S3 S4 HF HNO bxv
              gi_wp2
              refine (CallsIn.inRound l (callsIn_wide.2 (closest_c V2 _ _ _ false false false a b y.num y.den ch.num ch.den HXV.out HYV.out HZV.out (by omega) (by omega) (by omega) (by omega) (by omega) (by omega)))).mono ?_
              rintro e w12 ⟨v12, rfl, hv12, hb12⟩
              rw [← HFIN3.out] at hv12
              obtain ⟨X, hX⟩ : ∃ X, nearC false a b N fin = X := ⟨_, rfl⟩
              rw [hX] at hv12
              have HX := Lib.hid hX
              obtain ⟨vx, vy, rfl, i1, i2⟩ := hv12
              obtain ⟨q1, m1, rfl, _, _⟩ := i1.shape
              obtain ⟨q2, m2, rfl, _, _⟩ := i2.shape
              have hb3 := HV32.out.trans (hb12.mono HV32.out.size)
              have br := BRr.out.after hb3
              have be := BEr.out.after hb3
              obtain ⟨r0, r1, r2⟩ := br.cells3
              have f0 := br.frozen 0
              have f1 := br.frozen 1
              have f2 := br.frozen 2
              have h0 : w12.cell? ⟨w.heap.size + 1 + 1, 0, none⟩ = some (.int .i64 0) := be.cell 0
              have h1 := be.frozen 0
              have hlr := br.lt
              have hle := be.lt
              have HEND := Lib.hid (end_near (x := X) (e := 0) br be (fun _ h => by cases h) (fun _ h => by cases h) i1 i2 (HB0r.out.trans (hb3.mono HB0r.out.size)))
              have HKS := Lib.hid ((KeepSoft.of_below (B := W1.heap.size) hb3).end_near (a := .bool X.neg) (b := .slice q1 X.num.length m1) (c := .slice q2 X.den.length m2) (d := .int .i64 0) br be (by omega))
              clear hX hb12 hb3 br be i1 i2 c0 c1 c2 d0 d1 d2 x0 x1 x2
              gi_wp2
              refine ⟨?_, HKS.out⟩
              rw [HX.out]
              exact HEND.out
end Go.Proofs.Ytaojdlcailpheaa
