/- Walks of package canary: the closure of Chance that puts an outcome to what has stopped or to what goes on.
   Canary, plain: which numbers of failures the map of Chance bears behind each wave.
   Canary, plain: the map of Chance within a wave, value by value and key by key; how great the numbers are.
   Memory words, more: what is kept where a set of blocks may turn.
   Walks of package canary: the closure of Chance, in the words of what stands within a wave.
   Walks of package canary: between, failures. -/
import Derived.Test.YtjjefdkadgkhfaaK18
import Derived.Test.YtjjefdkadgkhfaaK19
import Derived.Test.YtjjefdkadgkhfaaK10
import Derived.Maps.OwnOps
import Derived.Test.YtjjefdkadgkhfaaK15
import Derived.Test.YtjjefdkadgkhfaaK12
set_option linter.unusedVariables false
namespace Go.Proofs.Ytjjefdkadgkhfaa
open Go.RowKit

/-- The parameter of the closure in its own variable. -/
theorem start_x {w : World} {x : F} {p q : Option Addr} {n m c d : Nat} (h1 : Sl w (.slice p n c) x.num) (h2 : Sl w (.slice q m d) x.den) :
    ∃ W0, W0 = w.alloc (.cells #[.bool x.neg, .slice p n c, .slice q m d] 30) ∧ Box W0 w.heap.size #[.bool x.neg, .slice p n c, .slice q m d] 30 ∧ Sl W0 (.slice p n c) x.num ∧ Sl W0 (.slice q m d) x.den ∧ Below w.heap.size w W0 ∧ W0.heap.size = w.heap.size + 1 :=
  ⟨_, rfl, Box.new w _ _, h1.alloc _, h2.alloc _, held_alloc (Below.refl _ w), by simp⟩
theorem grown_set3 (w : World) (O : Nat) (u0 u1 u2 : Value) : w.grownBy (((w.setCell ⟨O, 0, none⟩ u0).setCell ⟨O, 1, none⟩ u1).setCell ⟨O, 2, none⟩ u2) (some O) :=
  grown_tr (grown_tr (grown_set w O 0 u0) (grown_set _ O 1 u1)) (grown_set _ O 2 u2)
theorem varF_set3 {w : World} {b : Nat} {x0 x1 x2 va vb : Value} {r : F} (h : Box w b #[x0, x1, x2] 30) (hx0 : ∀ x, x0 ≠ .int .u32 x) (hx1 : ∀ x, x1 ≠ .int .u32 x) (hx2 : ∀ x, x2 ≠ .int .u32 x) (h1 : Sl w va r.num) (h2 : Sl w vb r.den) : VarF (((w.setCell ⟨b, 0, none⟩ (.bool r.neg)).setCell ⟨b, 1, none⟩ va).setCell ⟨b, 2, none⟩ vb) b r := by
  have hb1 : Box (w.setCell ⟨b, 0, none⟩ (.bool r.neg)) b #[.bool r.neg, x1, x2] 30 := by simpa using h.set 0 (.bool r.neg)
  have hb2 : Box ((w.setCell ⟨b, 0, none⟩ (.bool r.neg)).setCell ⟨b, 1, none⟩ va) b #[.bool r.neg, va, x2] 30 := by simpa using hb1.set 1 va
  refine ⟨va, vb, end_box h, ?_, ?_⟩
  · exact ((h1.setN (h.cell 0) hx0 _).setN (hb1.cell 1) hx1 _).setN (hb2.cell 2) hx2 _
  · exact ((h2.setN (h.cell 0) hx0 _).setN (hb1.cell 1) hx1 _).setN (hb2.cell 2) hx2 _

set_option maxRecDepth 100000 in
set_option maxHeartbeats 4000000 in
theorem chance1_stop (w : World) (k mo : Int) (v : Value) (x s r : F) (bB sB nB : Nat) (hx : IsF w v x) (hb : w.cell? ⟨bB, 1, none⟩ = some (.int .i64 mo)) (hbl : bB < w.heap.size) (hs : VarF w sB s) (hk : mo < k) (hsum : opF sumN s x = (r, 0)) :
    Calls Try.prog 33 #[.int .i64 k, v, .pointer (some ⟨bB, 0, none⟩), .pointer (some ⟨sB, 0, none⟩), .pointer (some ⟨nB, 0, none⟩)] w fun e w' => (∃ u, e = .returned u) ∧ VarF w' sB r ∧ w.grownBy w' (some sB) := by
  obtain ⟨va, vb, rfl, h1, h2⟩ := hx
  obtain ⟨p, cp, rfl, _, _⟩ := h1.shape
  obtain ⟨q, cq, rfl, _, _⟩ := h2.shape
  obtain ⟨W0, hW, bx, g1, g2, hb0, hsz⟩ := start_x h1 h2
  have cb : W0.cell? ⟨bB, 1, none⟩ = some (.int .i64 mo) := (hb0.cell (p := ⟨bB, 1, none⟩) hbl).trans hb
  have hs0 := hs.after hb0
  have hsl := hs.lt
  obtain ⟨vc, vd, bs, g3, g4⟩ := hs0
  obtain ⟨ps, cps, rfl, _, _⟩ := g3.shape
  obtain ⟨qs, cqs, rfl, _, _⟩ := g4.shape
  obtain ⟨x0, x1, x2⟩ := bx.cells3
  obtain ⟨s0, s1, s2⟩ := bs.cells3
  have hxl : w.heap.size < W0.heap.size := by omega
  have hsl2 : sB < W0.heap.size := by omega
  have HB0 := Lib.hid hb0
  have BS := Lib.hid bs
  have G1 := Lib.hid g1
  have G2 := Lib.hid g2
  have G3 := Lib.hid g3
  have G4 := Lib.hid g4
  have HSUM := Lib.hid hsum
  clear hs hb hbl hb0 bx bs g1 g2 g3 g4 h1 h2 hsz hsum
  go_enter Try.func33, Try.ntmps33
  go_upto_region 1 with fail
  rw [← hW]
  clear hW
  go_wp2_with fail
  refine (Add_c _ _ _ _ _ ⟨_, _, rfl, G3.out, G4.out⟩ ⟨_, _, rfl, G1.out, G2.out⟩).mono ?_
  rw [HSUM.out]
  rintro e w2 ⟨v2, rfl, hv2, hb2⟩
  obtain ⟨va2, vb2, rfl, k1, k2⟩ := hv2
  obtain ⟨p2, cp2, rfl, _, _⟩ := k1.shape
  obtain ⟨q2, cq2, rfl, _, _⟩ := k2.shape
  have bs2 := BS.out.after hb2
  obtain ⟨t0, t1, t2⟩ := bs2.cells3
  have f0 := bs2.frozen 0
  have f1 := bs2.frozen 1
  have f2 := bs2.frozen 2
  have BS2 := Lib.hid bs2
  have K1 := Lib.hid k1
  have K2 := Lib.hid k2
  have HB2 := Lib.hid (HB0.out.trans (hb2.mono HB0.out.size))
  clear bs2 k1 k2 hb2 s0 s1 s2 x0 x1 x2 cb BS G1 G2 G3 G4 HSUM
  go_wp2_with fail
  go_end0
  exact ⟨⟨_, rfl⟩, varF_set3 BS2.out (fun _ h => by cases h) (fun _ h => by cases h) (fun _ h => by cases h) K1.out K2.out, grown_tr (grown_but (grownBy_of_below HB2.out) _) (grown_set3 _ _ _ _ _)⟩

set_option maxRecDepth 100000 in
set_option maxHeartbeats 4000000 in
theorem chance1_new (w : World) (k : Nat) (mo : Int) (v : Value) (x : F) (bB sB nB M n : Nat) (f : Nat → Option F) (hx : IsF w v x) (hb : w.cell? ⟨bB, 1, none⟩ = some (.int .i64 mo)) (hbl : bB < w.heap.size) (hn : w.cell? ⟨nB, 0, none⟩ = some (.map (some M))) (hnl : nB < w.heap.size)
    (hM : MapF w M n f) (hnn : n < 9223372036854775807) (hkk : k ≤ 9223372036854775807) (hk : (k : Int) ≤ mo) (hf : f k = none) :
    Calls Try.prog 33 #[.int .i64 (k : Int), v, .pointer (some ⟨bB, 0, none⟩), .pointer (some ⟨sB, 0, none⟩), .pointer (some ⟨nB, 0, none⟩)] w fun e w' => (∃ u, e = .returned u) ∧ MapF w' M (n + 1) (fun j => if j = k then some x else f j) ∧ w.grownBy w' (some M) := by
  obtain ⟨va, vb, rfl, h1, h2⟩ := hx
  obtain ⟨p, cp, rfl, _, _⟩ := h1.shape
  obtain ⟨q, cq, rfl, _, _⟩ := h2.shape
  obtain ⟨W0, hW, bx, g1, g2, hb0, hsz⟩ := start_x h1 h2
  have cb : W0.cell? ⟨bB, 1, none⟩ = some (.int .i64 mo) := (hb0.cell (p := ⟨bB, 1, none⟩) hbl).trans hb
  have cn : W0.cell? ⟨nB, 0, none⟩ = some (.map (some M)) := (hb0.cell (p := ⟨nB, 0, none⟩) hnl).trans hn
  have hM0 := hM.after hb0
  have hrun := hM0.look_no hkk hf
  have hMl := hM.lt
  obtain ⟨x0, x1, x2⟩ := bx.cells3
  have hxl : w.heap.size < W0.heap.size := by omega
  have BX := Lib.hid bx
  have HB0 := Lib.hid hb0
  have HM0 := Lib.hid hM0
  have G1 := Lib.hid g1
  have G2 := Lib.hid g2
  have hnk : ¬ mo < (k : Int) := by omega
  clear hM0 hM hb hn hb0 bx g1 g2 h1 h2 hsz
  go_enter Try.func33, Try.ntmps33
  go_upto_region 1 with fail
  rw [← hW]
  clear hW
  have hnl0 : nB < W0.heap.size := by omega
  go_upto_region 4 with fail
  obtain ⟨W1, hW1, hb1, y0, y1, y2, cn1, HM1⟩ : ∃ W1, W1 = W0.alloc (.cells #[.bool false, .slice none 0 0, .slice none 0 0] 30) ∧ Hid (Below W0.heap.size W0 W1) ∧ W1.cell? ⟨w.heap.size, 0, none⟩ = some (.bool x.neg) ∧ W1.cell? ⟨w.heap.size, 1, none⟩ = some (.slice p x.num.length cp) ∧ W1.cell? ⟨w.heap.size, 2, none⟩ = some (.slice q x.den.length cq) ∧ W1.cell? ⟨nB, 0, none⟩ = some (.map (some M)) ∧ Hid (MapF W1 M n f) := by
    have hh : Below W0.heap.size W0 (W0.alloc (.cells #[.bool false, .slice none 0 0, .slice none 0 0] 30)) := held_alloc (Below.refl _ W0)
    exact ⟨_, rfl, hh, (hh.cell (p := ⟨w.heap.size, 0, none⟩) hxl).trans x0, (hh.cell (p := ⟨w.heap.size, 1, none⟩) hxl).trans x1, (hh.cell (p := ⟨w.heap.size, 2, none⟩) hxl).trans x2, (hh.cell (p := ⟨nB, 0, none⟩) hnl0).trans cn, HM0.out.after hh⟩
  rw [← hW1]
  clear hW1
  obtain ⟨D, hD1, hD2⟩ := HM1.out
  have HD1 := Lib.hid hD1
  have HD2 := Lib.hid hD2
  have GG := Lib.hid (show IsF W1 (.agg #[.bool x.neg, .slice p x.num.length cp, .slice q x.den.length cq]) x from ⟨_, _, rfl, G1.out.after hb1.out, G2.out.after hb1.out⟩)
  have HB1 := Lib.hid (HB0.out.trans (hb1.out.mono HB0.out.size))
  clear hD1 hD2 hb1 x0 x1 x2 cb cn hrun HM0 HM1 G1 G2 HB0 BX
  go_wp2_with (at_mapUpdate; refine wpList_mapUpdate_own _ rfl _ _ _ 72 rfl 3 30 mapLawI Try.underlying72 rdV M n D rfl HD1.out (by unfold maxLen; omega) _ _ _ rfl rfl (key_nat hkk) _ [] rfl ?_)
  intro w1 hown1 hgrow1
  have HP := Lib.hid (MapF.put HD1.out HD2.out GG.out hown1 hgrow1)
  have HG := Lib.hid hgrow1
  clear hown1 hgrow1
  go_wp2_with fail
  go_end0
  exact ⟨⟨_, rfl⟩, HP.out, grown_tr (grown_but (grownBy_of_below HB1.out) _) HG.out⟩

set_option maxRecDepth 100000 in
set_option maxHeartbeats 4000000 in
theorem chance1_more (w : World) (k : Nat) (mo : Int) (v : Value) (x y r : F) (bB sB nB M n : Nat) (f : Nat → Option F) (hx : IsF w v x) (hb : w.cell? ⟨bB, 1, none⟩ = some (.int .i64 mo)) (hbl : bB < w.heap.size) (hn : w.cell? ⟨nB, 0, none⟩ = some (.map (some M))) (hnl : nB < w.heap.size)
    (hM : MapF w M n f) (hnn : n < 9223372036854775807) (hkk : k ≤ 9223372036854775807) (hk : (k : Int) ≤ mo) (hf : f k = some y) (hsum : opF sumN y x = (r, 0)) :
    Calls Try.prog 33 #[.int .i64 (k : Int), v, .pointer (some ⟨bB, 0, none⟩), .pointer (some ⟨sB, 0, none⟩), .pointer (some ⟨nB, 0, none⟩)] w fun e w' => (∃ u, e = .returned u) ∧ MapF w' M (n + 1) (fun j => if j = k then some r else f j) ∧ w.grownBy w' (some M) := by
  obtain ⟨va, vb, rfl, h1, h2⟩ := hx
  obtain ⟨p, cp, rfl, _, _⟩ := h1.shape
  obtain ⟨q, cq, rfl, _, _⟩ := h2.shape
  obtain ⟨W0, hW, bx, g1, g2, hb0, hsz⟩ := start_x h1 h2
  have cb : W0.cell? ⟨bB, 1, none⟩ = some (.int .i64 mo) := (hb0.cell (p := ⟨bB, 1, none⟩) hbl).trans hb
  have cn : W0.cell? ⟨nB, 0, none⟩ = some (.map (some M)) := (hb0.cell (p := ⟨nB, 0, none⟩) hnl).trans hn
  have hM0 := hM.after hb0
  obtain ⟨vo, hrun, hvo⟩ := hM0.look_yes hkk hf
  obtain ⟨vc, vd, rfl, h3, h4⟩ := hvo
  obtain ⟨po, cpo, rfl, _, _⟩ := h3.shape
  obtain ⟨qo, cqo, rfl, _, _⟩ := h4.shape
  have hMl := hM.lt
  obtain ⟨x0, x1, x2⟩ := bx.cells3
  have hxl : w.heap.size < W0.heap.size := by omega
  have HB0 := Lib.hid hb0
  have HM0 := Lib.hid hM0
  have G1 := Lib.hid g1
  have G2 := Lib.hid g2
  have H3 := Lib.hid h3
  have H4 := Lib.hid h4
  have HSUM := Lib.hid hsum
  have hnk : ¬ mo < (k : Int) := by omega
  have hnl0 : nB < W0.heap.size := by omega
  clear hM0 hM hb hn hb0 bx g1 g2 h1 h2 h3 h4 hsz hsum
  go_enter Try.func33, Try.ntmps33
  go_upto_region 1 with fail
  rw [← hW]
  clear hW
  go_upto_region 4 with fail
  obtain ⟨W1, hW1, hb1, y0, y1, y2, z0, z1, z2, cn1, HM1⟩ : ∃ W1, W1 = W0.alloc (.cells #[.bool y.neg, .slice po y.num.length cpo, .slice qo y.den.length cqo] 30) ∧ Hid (Below W0.heap.size W0 W1) ∧ W1.cell? ⟨w.heap.size, 0, none⟩ = some (.bool x.neg) ∧ W1.cell? ⟨w.heap.size, 1, none⟩ = some (.slice p x.num.length cp) ∧ W1.cell? ⟨w.heap.size, 2, none⟩ = some (.slice q x.den.length cq) ∧
      W1.cell? ⟨W0.heap.size, 0, none⟩ = some (.bool y.neg) ∧ W1.cell? ⟨W0.heap.size, 1, none⟩ = some (.slice po y.num.length cpo) ∧ W1.cell? ⟨W0.heap.size, 2, none⟩ = some (.slice qo y.den.length cqo) ∧ W1.cell? ⟨nB, 0, none⟩ = some (.map (some M)) ∧ Hid (MapF W1 M n f) := by
    have hh : Below W0.heap.size W0 (W0.alloc (.cells #[.bool y.neg, .slice po y.num.length cpo, .slice qo y.den.length cqo] 30)) := held_alloc (Below.refl _ W0)
    have bz := Box.new W0 #[.bool y.neg, .slice po y.num.length cpo, .slice qo y.den.length cqo] 30
    exact ⟨_, rfl, hh, (hh.cell (p := ⟨w.heap.size, 0, none⟩) hxl).trans x0, (hh.cell (p := ⟨w.heap.size, 1, none⟩) hxl).trans x1, (hh.cell (p := ⟨w.heap.size, 2, none⟩) hxl).trans x2, bz.cell 0, bz.cell 1, bz.cell 2, (hh.cell (p := ⟨nB, 0, none⟩) hnl0).trans cn, HM0.out.after hh⟩
  rw [← hW1]
  clear hW1
  obtain ⟨D, hD1, hD2⟩ := HM1.out
  have HD1 := Lib.hid hD1
  have HD2 := Lib.hid hD2
  have GX := Lib.hid (show IsF W1 (.agg #[.bool x.neg, .slice p x.num.length cp, .slice q x.den.length cq]) x from ⟨_, _, rfl, G1.out.after hb1.out, G2.out.after hb1.out⟩)
  have GY := Lib.hid (show IsF W1 (.agg #[.bool y.neg, .slice po y.num.length cpo, .slice qo y.den.length cqo]) y from ⟨_, _, rfl, H3.out.after hb1.out, H4.out.after hb1.out⟩)
  have HB1 := Lib.hid (HB0.out.trans (hb1.out.mono HB0.out.size))
  clear hD1 hD2 hb1 x0 x1 x2 cb cn hrun HM0 HM1 G1 G2 H3 H4 HB0
  go_upto_region 5 with fail
  have mkS : Hid (∀ w', Below W1.heap.size W1 w' → w'.cell? ⟨nB, 0, none⟩ = some (.map (some M)) ∧ w'.cell? ⟨w.heap.size, 0, none⟩ = some (.bool x.neg) ∧ w'.cell? ⟨w.heap.size, 1, none⟩ = some (.slice p x.num.length cp) ∧ w'.cell? ⟨w.heap.size, 2, none⟩ = some (.slice q x.den.length cq) ∧
      w'.cell? ⟨W0.heap.size, 0, none⟩ = some (.bool y.neg) ∧ w'.cell? ⟨W0.heap.size, 1, none⟩ = some (.slice po y.num.length cpo) ∧ w'.cell? ⟨W0.heap.size, 2, none⟩ = some (.slice qo y.den.length cqo)) :=
    fun w' hb => ⟨keep_cell hb cn1, keep_cell hb y0, keep_cell hb y1, keep_cell hb y2, keep_cell hb z0, keep_cell hb z1, keep_cell hb z2⟩
  go_region_held3 (fun w' => w'.cell? ⟨nB, 0, none⟩ = some (.map (some M)) ∧ w'.cell? ⟨w.heap.size, 0, none⟩ = some (.bool x.neg) ∧ w'.cell? ⟨w.heap.size, 1, none⟩ = some (.slice p x.num.length cp) ∧ w'.cell? ⟨w.heap.size, 2, none⟩ = some (.slice q x.den.length cq) ∧
      w'.cell? ⟨W0.heap.size, 0, none⟩ = some (.bool y.neg) ∧ w'.cell? ⟨W0.heap.size, 1, none⟩ = some (.slice po y.num.length cpo) ∧ w'.cell? ⟨W0.heap.size, 2, none⟩ = some (.slice qo y.den.length cqo))
    (first | (refine mkS.out _ ?_; (repeat (first | with_reducible exact hk1 | with_reducible exact Below.refl _ _ | with_reducible refine below_dr ?_)); done) | (exact ⟨map_cell hown2 hgrow3 (keep_cell hk1 cn1), map_cell hown2 hgrow3 (keep_cell hk1 y0), map_cell hown2 hgrow3 (keep_cell hk1 y1), map_cell hown2 hgrow3 (keep_cell hk1 y2), map_cell hown2 hgrow3 (keep_cell hk1 z0), map_cell hown2 hgrow3 (keep_cell hk1 z1), map_cell hown2 hgrow3 (keep_cell hk1 z2)⟩))
    (first
     | (go_at_call 19; refine (Add_c _ _ _ y x (GY.out.after (below_dr (Below.refl _ W1))) (GX.out.after (below_dr (Below.refl _ W1)))).mono ?_; rw [HSUM.out]; rintro e w2 ⟨v2, rfl, hv2, hb2⟩; have hk1 := below_of_drew hb2; clear hb2; have hown2 := HD1.out.kept (grownBy_of_below hk1) (by simp); obtain ⟨w3, hrun3, hown3, hgrow3⟩ := hown2.update mapLawI Try.underlying72 (show n < maxLen by unfold maxLen; omega) (key_nat hkk) (show rdV v2 = some (.held v2, []) from rfl)))
  have HP := Lib.hid (MapF.put (HD1.out.kept (grownBy_of_below hk1) (by simp)) (HD2.out.after hk1) hv2 hown3 hgrow3)
  have HG := Lib.hid hgrow3
  have HK := Lib.hid (HB1.out.trans (hk1.mono HB1.out.size))
  clear hown3 hgrow3 hk1 hv2 mkS cn1 y0 y1 y2 z0 z1 z2
  go_wp2_with fail
  go_end0
  exact ⟨⟨_, rfl⟩, HP.out, grown_tr (grown_but (grownBy_of_below HK.out) _) HG.out⟩
end Go.Proofs.Ytjjefdkadgkhfaa

namespace Go.Proofs.Ytjjefdkadgkhfaa

/-- Behind r waves the map bears the keys below this. -/
noncomputable def dN (R : Ro) : Nat → Nat
  | 0 => 1
  | r + 1 => if dN R r = 0 then 0 else min (mOf R (cum R (r + 1))) (dN R r + wv R r)
theorem dN_le {R : Ro} : ∀ r, r ≤ R.waves.length → ValidR R → dN R r ≤ cum R r + 1
  | 0, _, _ => by rw [cum_zero]; exact Nat.le_refl _
  | r + 1, hr, hv => by
    have ih := dN_le r (by omega) hv
    have hw := (cum_wv hv (r := r) (by omega)).1
    rw [dN]
    split
    · omega
    · have : min (mOf R (cum R (r + 1))) (dN R r + wv R r) ≤ dN R r + wv R r := Nat.min_le_right _ _
      omega
/-- .. and nothing is likely beyond them. -/
theorem gN_dN (R : Ro) (a c : Nat) : ∀ r k, dN R r ≤ k → gN R a c r k = 0
  | 0, k, h => if_neg (by rw [dN] at h; omega)
  | r + 1, k, h => by
    rw [gN_succ]
    split
    · rename_i hm
      unfold nN
      rw [dN] at h
      split at h
      · rename_i h0
        unfold cvA
        refine sm_zero fun i _ => ?_
        show (if i ≤ k then gN R a c r (k - i) * ex a c (wv R r) i else 0) = 0
        rw [gN_dN R a c r (k - i) (by omega), Nat.zero_mul, ite_self]
      · rename_i h0
        refine cvA_far (n := dN R r - 1) (fun i hi => gN_dN R a c r i (by omega)) ?_
        have : ¬ (mOf R (cum R (r + 1)) ≤ k) := by omega
        rcases Nat.le_total (mOf R (cum R (r + 1))) (dN R r + wv R r) with h1 | h1
        · rw [Nat.min_eq_left h1] at h; omega
        · rw [Nat.min_eq_right h1] at h; omega
    · rfl
/-- What the map bears behind r waves. -/
noncomputable def goingF (R : Ro) (a c r k : Nat) : Option F := if k < dN R r then some (FQ (gN R a c r k) ((a + c) ^ cum R r)) else none
theorem goingF_yes {R : Ro} {a c r k : Nat} (h : k < dN R r) : goingF R a c r k = some (FQ (gN R a c r k) ((a + c) ^ cum R r)) := if_pos h
theorem goingF_no {R : Ro} {a c r k : Nat} (h : dN R r ≤ k) : goingF R a c r k = none := if_neg (by omega)

/-- Within a wave: the terms of the values below j, and of value j at the keys already met. -/
def partN (g e : Nat → Nat) (j : Nat) (vis : Nat → Bool) (i : Nat) : Nat := cvA g e j i + if j ≤ i ∧ vis (i - j) = true then g (i - j) * e j else 0
/-- .. and the keys that stand by then. -/
def partHas (D j : Nat) (vis : Nat → Bool) (i : Nat) : Prop := (0 < j ∧ i + 1 < D + j) ∨ (j ≤ i ∧ vis (i - j) = true)
theorem partN_none (g e : Nat → Nat) (j i : Nat) : partN g e j (fun _ => false) i = cvA g e j i := by
  unfold partN
  rw [if_neg (by simp), Nat.add_zero]
theorem partN_all {g e : Nat → Nat} {D j i : Nat} {vis : Nat → Bool} (hv : ∀ k, k < D → vis k = true) (hg : ∀ k, D ≤ k → g k = 0) : partN g e j vis i = cvA g e (j + 1) i := by
  rw [cvA_succ]
  unfold partN
  congr 1
  by_cases h : j ≤ i
  · by_cases hd : i - j < D
    · rw [if_pos ⟨h, hv _ hd⟩, if_pos h]
    · rw [hg (i - j) (by omega), Nat.zero_mul, ite_self, ite_self]
  · rw [if_neg (fun hh => h hh.1), if_neg h]
/-- One key more. -/
theorem partN_step {g e : Nat → Nat} {j k : Nat} {vis : Nat → Bool} (hk : vis k = false) (i : Nat) : partN g e j (fun x => decide (x = k) || vis x) i = partN g e j vis i + if i = k + j then g k * e j else 0 := by
  unfold partN
  by_cases hi : i = k + j
  · subst hi
    simp [hk]
  · by_cases hj : j ≤ i
    · have hne : i - j ≠ k := by omega
      simp [hi, hne]
    · simp [hi, hj]
theorem partHas_none {D j i : Nat} : partHas D j (fun _ => false) i ↔ 0 < j ∧ i + 1 < D + j := by unfold partHas; simp
theorem partHas_all {D j i : Nat} {vis : Nat → Bool} (hD : 0 < D) (hv : ∀ k, vis k = true ↔ k < D) : partHas D j vis i ↔ i + 1 < D + (j + 1) := by
  unfold partHas
  rw [hv]
  omega
theorem partHas_step {D j k i : Nat} {vis : Nat → Bool} : partHas D j (fun x => decide (x = k) || vis x) i ↔ i = k + j ∨ partHas D j vis i := by
  unfold partHas
  by_cases hj : j ≤ i
  · by_cases hi : i - j = k
    · have : i = k + j := by omega
      simp [this]
    · have : i ≠ k + j := by omega
      simp [hj, hi, this]
  · have : i ≠ k + j := by omega
    simp [hj, this]

/-- What has been put to the stopped within a wave: all at m and beyond. -/
def partS (g e : Nat → Nat) (N m j : Nat) (vis : Nat → Bool) : Nat := sm N fun i => if i < m then 0 else partN g e j vis i
theorem sm_at {N t x : Nat} (ht : t < N) : sm N (fun i => if i = t then x else 0) = x := by
  induction N with
  | zero => omega
  | succ N ih =>
    rw [sm]
    rcases Nat.lt_or_eq_of_le (Nat.le_of_lt_succ ht) with h | h
    · rw [ih h, if_neg (by omega), Nat.add_zero]
    · subst h
      rw [sm_zero fun i hi => if_neg (by omega), if_pos rfl, Nat.zero_add]
theorem partS_stop {g e : Nat → Nat} {N m j k : Nat} {vis : Nat → Bool} (hk : vis k = false) (h : m ≤ k + j) (hN : k + j < N) : partS g e N m j (fun x => decide (x = k) || vis x) = partS g e N m j vis + g k * e j := by
  unfold partS
  rw [← sm_at (x := g k * e j) hN, ← sm_add]
  refine sm_congr fun i _ => ?_
  rw [partN_step hk]
  by_cases hi : i = k + j
  · subst hi
    rw [if_neg (show ¬ (k + j < m) by omega), if_neg (show ¬ (k + j < m) by omega), if_pos rfl]
  · by_cases hm : i < m
    · rw [if_pos hm, if_pos hm, if_neg hi]
    · rw [if_neg hm, if_neg hm, if_neg hi]
theorem partS_go {g e : Nat → Nat} {N m j k : Nat} {vis : Nat → Bool} (hk : vis k = false) (h : k + j < m) : partS g e N m j (fun x => decide (x = k) || vis x) = partS g e N m j vis := by
  unfold partS
  refine sm_congr fun i _ => ?_
  rw [partN_step hk]
  by_cases hm : i < m
  · rw [if_pos hm, if_pos hm]
  · rw [if_neg hm, if_neg hm, if_neg (by omega), Nat.add_zero]
theorem partS_zero (g e : Nat → Nat) (N m : Nat) : partS g e N m 0 (fun _ => false) = 0 := by
  unfold partS
  refine sm_zero fun i _ => ?_
  rw [partN_none]
  show (if i < m then 0 else cvA g e 0 i) = 0
  split <;> rfl
theorem partS_all {g e : Nat → Nat} {N m D j : Nat} {vis : Nat → Bool} (hv : ∀ k, k < D → vis k = true) (hg : ∀ k, D ≤ k → g k = 0) : partS g e N m j vis = partS g e N m (j + 1) (fun _ => false) := by
  unfold partS
  exact sm_congr fun i _ => by rw [partN_all hv hg, partN_none]
/-- Behind the wave. -/
theorem gS_part (R : Ro) (a c r : Nat) : gS R a c (r + 1) = gS R a c r * (a + c) ^ wv R r + partS (gN R a c r) (ex a c (wv R r)) (cum R (r + 1) + 1) (mOf R (cum R (r + 1))) (wv R r + 1) (fun _ => false) := by
  rw [gS]
  congr 1
  unfold partS
  exact sm_congr fun k _ => by rw [partN_none]; rfl
end Go.Proofs.Ytjjefdkadgkhfaa

namespace Go.Proofs.Ytjjefdkadgkhfaa

theorem partN_zero {g e : Nat → Nat} {D j i : Nat} {vis : Nat → Bool} (hD : 0 < D) (hg : ∀ k, D ≤ k → g k = 0) (h : ¬ partHas D j vis i) : partN g e j vis i = 0 := by
  unfold partHas at h
  unfold partN
  rw [if_neg (fun hh => h (.inr hh)), Nat.add_zero]
  rcases Nat.eq_zero_or_pos j with h0 | h0
  · subst h0; rfl
  · exact cvA_far (n := D - 1) (fun i hi => hg i (by omega)) (by omega)
open Classical in
/-- What the next map bears within a wave. -/
noncomputable def partF (g e : Nat → Nat) (D m d j : Nat) (vis : Nat → Bool) (i : Nat) : Option F := if 0 < D ∧ partHas D j vis i ∧ i < m then some (FQ (partN g e j vis i) d) else none
theorem partF_start (g e : Nat → Nat) (D m d i : Nat) : partF g e D m d 0 (fun _ => false) i = none := by
  unfold partF
  rw [if_neg]
  rintro ⟨_, h, _⟩
  rw [partHas_none] at h
  omega
theorem partF_stop {g e : Nat → Nat} {D m d j k : Nat} {vis : Nat → Bool} (hk : vis k = false) (h : m ≤ k + j) (i : Nat) : partF g e D m d j (fun x => decide (x = k) || vis x) i = partF g e D m d j vis i := by
  unfold partF
  by_cases hi : i = k + j
  · rw [if_neg (by omega), if_neg (by omega)]
  · have e1 : partHas D j (fun x => decide (x = k) || vis x) i ↔ partHas D j vis i := by rw [partHas_step]; simp [hi]
    rw [partN_step hk, if_neg hi, Nat.add_zero]
    by_cases hc : 0 < D ∧ partHas D j vis i ∧ i < m
    · rw [if_pos hc, if_pos ⟨hc.1, e1.2 hc.2.1, hc.2.2⟩]
    · rw [if_neg hc, if_neg (fun hh => hc ⟨hh.1, e1.1 hh.2.1, hh.2.2⟩)]
/-- One key more that goes on. -/
theorem partF_go {g e : Nat → Nat} {D m d j k : Nat} {vis : Nat → Bool} (hD : 0 < D) (hk : vis k = false) (h : k + j < m) (i : Nat) :
    partF g e D m d j (fun x => decide (x = k) || vis x) i = if i = k + j then some (FQ (partN g e j vis (k + j) + g k * e j) d) else partF g e D m d j vis i := by
  unfold partF
  by_cases hi : i = k + j
  · subst hi
    rw [if_pos rfl, if_pos ⟨hD, partHas_step.2 (.inl rfl), h⟩, partN_step hk, if_pos rfl]
  · have e1 : partHas D j (fun x => decide (x = k) || vis x) i ↔ partHas D j vis i := by rw [partHas_step]; simp [hi]
    rw [if_neg hi, partN_step hk, if_neg hi, Nat.add_zero]
    by_cases hc : 0 < D ∧ partHas D j vis i ∧ i < m
    · rw [if_pos hc, if_pos ⟨hc.1, e1.2 hc.2.1, hc.2.2⟩]
    · rw [if_neg hc, if_neg (fun hh => hc ⟨hh.1, e1.1 hh.2.1, hh.2.2⟩)]
theorem partF_some {g e : Nat → Nat} {D m d j i : Nat} {vis : Nat → Bool} {x : F} (h : partF g e D m d j vis i = some x) : x = FQ (partN g e j vis i) d := by
  unfold partF at h
  split at h
  · exact (Option.some.inj h).symm
  · cases h
theorem partF_none {g e : Nat → Nat} {D m d j i : Nat} {vis : Nat → Bool} (hD : 0 < D) (hg : ∀ k, D ≤ k → g k = 0) (hi : i < m) (h : partF g e D m d j vis i = none) : partN g e j vis i = 0 := by
  refine partN_zero hD hg fun hh => ?_
  unfold partF at h
  rw [if_pos ⟨hD, hh, hi⟩] at h
  cases h
theorem partF_all {g e : Nat → Nat} {D m d j i : Nat} {vis : Nat → Bool} (hv : ∀ k, vis k = true ↔ k < D) (hg : ∀ k, D ≤ k → g k = 0) : partF g e D m d j vis i = partF g e D m d (j + 1) (fun _ => false) i := by
  unfold partF
  by_cases hD : 0 < D
  · rw [partN_all (fun k hk => (hv k).2 hk) hg, partN_none]
    have e1 : partHas D j vis i ↔ partHas D (j + 1) (fun _ => false) i := by
      rw [partHas_all hD hv, partHas_none]; omega
    by_cases hc : 0 < D ∧ partHas D j vis i ∧ i < m
    · rw [if_pos hc, if_pos ⟨hc.1, e1.1 hc.2.1, hc.2.2⟩]
    · rw [if_neg hc, if_neg (fun hh => hc ⟨hh.1, e1.2 hh.2.1, hh.2.2⟩)]
  · rw [if_neg (fun h => hD h.1), if_neg (fun h => hD h.1)]
theorem partF_end {R : Ro} {a c r : Nat} (hw : cum R r + wv R r = cum R (r + 1)) (i : Nat) :
    partF (gN R a c r) (ex a c (wv R r)) (dN R r) (mOf R (cum R (r + 1))) ((a + c) ^ cum R (r + 1)) (wv R r + 1) (fun _ => false) i = goingF R a c (r + 1) i := by
  unfold partF goingF
  have e1 : (0 < dN R r ∧ partHas (dN R r) (wv R r + 1) (fun _ => false) i ∧ i < mOf R (cum R (r + 1))) ↔ i < dN R (r + 1) := by
    rw [dN, partHas_none]
    split <;> omega
  by_cases hc : i < dN R (r + 1)
  · rw [if_pos (e1.2 hc), if_pos hc, gN_succ, if_pos (e1.2 hc).2.2, partN_none]
    rfl
  · rw [if_neg (fun h => hc (e1.1 h)), if_neg hc]

theorem sm_mono {n : Nat} {f : Nat → Nat} : ∀ {m : Nat}, n ≤ m → sm n f ≤ sm m f
  | 0, h => by rw [show n = 0 by omega]; exact Nat.le_refl _
  | m + 1, h => by
    rcases Nat.lt_or_eq_of_le h with h1 | h1
    · rw [sm]; exact Nat.le_trans (sm_mono (by omega)) (Nat.le_add_right _ _)
    · rw [h1]; exact Nat.le_refl _
theorem cvA_mono {g e : Nat → Nat} {j j' : Nat} (h : j ≤ j') (k : Nat) : cvA g e j k ≤ cvA g e j' k := sm_mono h
theorem partN_le {g e : Nat → Nat} {j w : Nat} {vis : Nat → Bool} (hj : j ≤ w) (i : Nat) : partN g e j vis i ≤ cvA g e (w + 1) i := by
  have h1 : partN g e j vis i ≤ cvA g e (j + 1) i := by
    rw [cvA_succ]
    unfold partN
    refine Nat.add_le_add_left ?_ _
    by_cases h : j ≤ i ∧ vis (i - j) = true
    · rw [if_pos h, if_pos h.1]; exact Nat.le_refl _
    · rw [if_neg h]; exact Nat.zero_le _
  exact Nat.le_trans h1 (cvA_mono (by omega) i)
section
variable {R : Ro} {a c r : Nat}
theorem nN_sum (h : ValidR R) (a c : Nat) (hr : r < R.waves.length) : sm (cum R (r + 1) + 1) (fun k => nN R a c r k) + gS R a c r * (a + c) ^ wv R r = (a + c) ^ cum R (r + 1) := by
  have hw := cum_wv h hr
  have hs : sm (cum R (r + 1) + 1) (fun k => nN R a c r k) = sm (cum R r + 1) (gN R a c r) * sm (wv R r + 1) (ex a c (wv R r)) :=
    cvA_sum (fun i hi => gN_far h a c (by omega) i hi) _ (by omega)
  rw [ex_all] at hs
  rw [hs, ← Nat.add_mul, gN_gS h a c (by omega), ← hw.1, Nat.pow_add]
/-- Every part of the next map is at most the whole. -/
theorem partN_bound (h : ValidR R) (a c : Nat) (hr : r < R.waves.length) {j : Nat} (hj : j ≤ wv R r) (vis : Nat → Bool) (i : Nat) : partN (gN R a c r) (ex a c (wv R r)) j vis i ≤ (a + c) ^ cum R (r + 1) := by
  refine Nat.le_trans (partN_le hj i) ?_
  rcases Nat.lt_or_ge i (cum R (r + 1) + 1) with h1 | h1
  · have h2 : nN R a c r i ≤ sm (cum R (r + 1) + 1) (fun k => nN R a c r k) := sm_one (f := fun k => nN R a c r k) h1
    have h3 := nN_sum h a c hr
    have h4 : cvA (gN R a c r) (ex a c (wv R r)) (wv R r + 1) i = nN R a c r i := rfl
    omega
  · have h4 : cvA (gN R a c r) (ex a c (wv R r)) (wv R r + 1) i = nN R a c r i := rfl
    rw [h4, nN_far h a c hr (by omega)]
    exact Nat.zero_le _
theorem partS_bound (h : ValidR R) (a c : Nat) (hr : r < R.waves.length) {j : Nat} (hj : j ≤ wv R r) (vis : Nat → Bool) (m : Nat) :
    gS R a c r * (a + c) ^ wv R r + partS (gN R a c r) (ex a c (wv R r)) (cum R (r + 1) + 1) m j vis ≤ (a + c) ^ cum R (r + 1) := by
  have h1 : partS (gN R a c r) (ex a c (wv R r)) (cum R (r + 1) + 1) m j vis ≤ sm (cum R (r + 1) + 1) (fun k => nN R a c r k) := by
    unfold partS
    refine sm_le fun i _ => ?_
    show (if i < m then 0 else partN (gN R a c r) (ex a c (wv R r)) j vis i) ≤ nN R a c r i
    split
    · exact Nat.zero_le _
    · exact partN_le hj i
  have h2 := nN_sum h a c hr
  omega
theorem gN_bound (h : ValidR R) (a c : Nat) (hr : r ≤ R.waves.length) (k : Nat) : gN R a c r k ≤ (a + c) ^ cum R r := by
  have h3 := gN_gS h a c hr
  rcases Nat.lt_or_ge k (cum R r + 1) with h1 | h1
  · have h2 : gN R a c r k ≤ sm (cum R r + 1) (gN R a c r) := sm_one h1
    omega
  · rw [gN_far h a c hr k (by omega)]; exact Nat.zero_le _
/-- Powers of a rate's denominator are short. -/
theorem pow_short {b n z : Nat} (hb : b ≤ 1000) (hn : n ≤ 16) (hz : z ≤ b ^ n) : (limbs z).length ≤ 32 :=
  Nat.le_trans (limbs_len_mono hz) (Nat.le_trans (pow_limbs hb (by omega)) (by omega))
end
end Go.Proofs.Ytjjefdkadgkhfaa

namespace Go.Proofs.Ytjjefdkadgkhfaa
open Go.RowKit

/-- Of the blocks that were there, only those in S may have turned. -/
structure Fx (S : Nat → Prop) (w W : World) : Prop where
  os : W.os = w.os
  tape : W.tape = w.tape
  output : W.output = w.output
  size : w.heap.size ≤ W.heap.size
  block : ∀ b, b < w.heap.size → ¬ S b → W.heap[b]? = w.heap[b]?
section
variable {S : Nat → Prop} {w W W' : World}
theorem Fx.refl (S : Nat → Prop) (w : World) : Fx S w w := ⟨rfl, rfl, rfl, Nat.le_refl _, fun _ _ _ => rfl⟩
theorem Fx.grown {row : Option Nat} (h : Fx S w W) (hg : W.grownBy W' row) (hr : ∀ g, row = some g → S g ∨ w.heap.size ≤ g) : Fx S w W' :=
  ⟨hg.os.trans h.os, hg.tape.trans h.tape, hg.output.trans h.output, Nat.le_trans h.size hg.size, fun b hb hs =>
    (hg.block b (Nat.lt_of_lt_of_le hb h.size) (fun e => by rcases hr b e.symm with h1 | h1; exact hs h1; omega)).trans (h.block b hb hs)⟩
theorem Fx.below (h : Fx S w W) (hb : Below W.heap.size W W') : Fx S w W' := h.grown (grownBy_of_below hb) (fun _ e => by cases e)
theorem Fx.new {g : Nat} (h : Fx S w W) (hg : W.grownBy W' (some g)) (hn : w.heap.size ≤ g) : Fx S w W' := h.grown hg (fun g' e => by injection e with e; right; omega)
theorem Fx.of (h : Fx S w W) {g : Nat} (hg : W.grownBy W' (some g)) (hs : S g) : Fx S w W' := h.grown hg (fun g' e => by injection e with e; left; rw [← e]; exact hs)
theorem Fx.mono {T : Nat → Prop} (h : Fx S w W) (hT : ∀ b, S b → T b) : Fx T w W := ⟨h.os, h.tape, h.output, h.size, fun b hb hs => h.block b hb fun h => hs (hT b h)⟩
theorem Fx.toBelow {B : Nat} (h : Fx S w W) (hB : B ≤ w.heap.size) (hS : ∀ b, S b → B ≤ b) : Below B w W :=
  ⟨h.os, h.tape, h.output, h.size, fun b hb => h.block b (by omega) fun hs => by have := hS b hs; omega⟩
theorem Fx.trans (h : Fx S w W) (k : Fx S W W') : Fx S w W' :=
  ⟨k.os.trans h.os, k.tape.trans h.tape, k.output.trans h.output, Nat.le_trans h.size k.size, fun b hb hs => (k.block b (Nat.lt_of_lt_of_le hb h.size) hs).trans (h.block b hb hs)⟩
theorem Fx.of_below {w W : World} (h : Below w.heap.size w W) : Fx S w W := ⟨h.os, h.tape, h.output, h.size, fun b hb _ => h.block b hb⟩
theorem Box.fx {b : Nat} {cs : Array Value} {t : TypeId} (h : Box w b cs t) (hf : Fx S w W) (hb : ¬ S b) : Box W b cs t := (hf.block b h.lt hb).trans h
theorem Fx.cell {b o : Nat} {v : Value} (hf : Fx S w W) (h : w.cell? ⟨b, o, none⟩ = some v) (hb : ¬ S b) : W.cell? ⟨b, o, none⟩ = some v :=
  (World.cell?_of_block (hf.block b (World.block_lt_of_cell? w ⟨b, o, none⟩ h) hb)).trans h
theorem Sl.fx {v : Value} {l : List Nat} (h : Sl w v l) (hf : Fx S w W) (hr : ∀ g, S g → ¬ Tag32 w g) : Sl W v l := by
  obtain ⟨h0, a, cap, h1, h2, h3, h5, h6⟩ := h
  refine ⟨h0, a, cap, h1, h2, h3, ⟨h5.1, fun hl b off ha => ?_⟩, fun hl => ?_⟩
  · have ht := h5.2 hl b off ha
    have hne : ¬ S b := fun e => hr b e ht
    obtain ⟨cs, fz, ht'⟩ := ht
    exact ⟨cs, fz, (hf.block b (Tag32.lt ⟨cs, fz, ht'⟩) hne).trans ht'⟩
  · obtain ⟨b, off, ha, hlt, hc⟩ := h6 hl
    have ht := h5.2 hl b off ha
    exact ⟨b, off, ha, Nat.lt_of_lt_of_le hlt hf.size, fun i hi => hf.cell (hc i hi) fun e => hr b e ht⟩
theorem SlV.fx {v : Value} {cs : List Value} (h : SlV w v cs) (hf : Fx S w W) (hr : ∀ g o c, S g → w.cell? ⟨g, o, none⟩ = some c → c ∉ cs) : SlV W v cs := by
  obtain ⟨a, cap, h1, h2, h3, h4, h5⟩ := h
  refine ⟨a, cap, h1, h2, h3, h4, fun hl => ?_⟩
  obtain ⟨b, off, e, hlt, hc⟩ := h5 hl
  have hne : ¬ S b := fun hs => hr b _ cs[0] hs (hc 0 cs[0] (List.getElem?_eq_getElem hl)) (List.getElem_mem hl)
  exact ⟨b, off, e, Nat.lt_of_lt_of_le hlt hf.size, fun i c hi => hf.cell (hc i c hi) hne⟩
/-- The blocks of S hold neither limbs nor ints. -/
def Dull (S : Nat → Prop) (w : World) : Prop := (∀ g, S g → ¬ Tag32 w g) ∧ ∀ g o z, S g → w.cell? ⟨g, o, none⟩ ≠ some (.int .i64 z)
theorem SlI.fx {v : Value} {l : List Int} (h : SlI w v l) (hf : Fx S w W) (hd : Dull S w) : SlI W v l :=
  ⟨h.1, h.2.fx hf fun g o c hs hc hm => by obtain ⟨z, _, rfl⟩ := List.mem_map.1 hm; exact hd.2 g o z hs hc⟩
theorem IsF.fx {v : Value} {x : F} (h : IsF w v x) (hf : Fx S w W) (hd : Dull S w) : IsF W v x := by
  obtain ⟨va, vb, e, h1, h2⟩ := h
  exact ⟨va, vb, e, h1.fx hf hd.1, h2.fx hf hd.1⟩
theorem VarF.fx {b : Nat} {x : F} (h : VarF w b x) (hf : Fx S w W) (hd : Dull S w) (hb : ¬ S b) : VarF W b x := by
  obtain ⟨va, vb, e, h1, h2⟩ := h
  exact ⟨va, vb, e.fx hf hb, h1.fx hf hd.1, h2.fx hf hd.1⟩
theorem IsR.fx {v : Value} {R : Ro} (h : IsR w v R) (hf : Fx S w W) (hd : Dull S w) : IsR W v R := by
  obtain ⟨vh, vw, va, vb, vc, vd, e, h1, h2, h3, h4, h5, h6⟩ := h
  exact ⟨vh, vw, va, vb, vc, vd, e, h1.fx hf hd, h2.fx hf hd, h3.fx hf hd.1, h4.fx hf hd.1, h5.fx hf hd.1, h6.fx hf hd.1⟩
end
theorem Dull.two {w : World} {s g : Nat} {x : F} {M : Nat} (h1 : VarF w s x) (h2 : Box w g #[.map (some M)] 72) : Dull (fun b => b = s ∨ b = g) w := by
  obtain ⟨va, vb, hb, k1, k2⟩ := h1
  obtain ⟨p, cp, rfl, _, _⟩ := k1.shape
  obtain ⟨q, cq, rfl, _, _⟩ := k2.shape
  refine ⟨?_, ?_⟩
  · rintro b (rfl | rfl)
    · exact hb.noTag (by decide) _ rfl
    · exact h2.noTag (by decide) _ rfl
  · rintro b o z (rfl | rfl) h
    · rw [hb.cell] at h
      rcases o with _ | _ | _ | o
      · simp at h
      · simp at h
      · simp at h
      · simp at h
    · rw [h2.cell] at h
      rcases o with _ | o
      · simp at h
      · simp at h
theorem MapF.fx {S : Nat → Prop} {w W : World} {M n : Nat} {f : Nat → Option F} (h : MapF w M n f) (hf : Fx S w W) (hd : Dull S w) (hM : ¬ S M) : MapF W M n f := by
  obtain ⟨D, h1, h2⟩ := h
  refine ⟨D, ?_, h2.1, fun k x hk => ?_⟩
  · obtain ⟨es, clock, hb, h4⟩ := h1
    exact ⟨es, clock, (hf.block M (Array.getElem?_eq_some_iff.1 hb).1 hM).trans hb, h4⟩
  · obtain ⟨g1, v, g2, g3⟩ := h2.2 k x hk
    exact ⟨g1, v, g2, g3.fx hf hd⟩
theorem MapF.more {w : World} {M n m : Nat} {f : Nat → Option F} (h : MapF w M n f) (hn : n ≤ m) : MapF w M m f := by
  obtain ⟨D, h1, h2⟩ := h
  exact ⟨D, h1.mono hn, h2⟩
theorem MapF.cong {w : World} {M n : Nat} {f g : Nat → Option F} (h : MapF w M n f) (hfg : ∀ k, f k = g k) : MapF w M n g := by
  rw [← show f = g from funext hfg]; exact h
end Go.Proofs.Ytjjefdkadgkhfaa

namespace Go.Proofs.Ytjjefdkadgkhfaa
open Go.RowKit

theorem VarF.noTag {w : World} {b : Nat} {x : F} (h : VarF w b x) : ∀ g, some b = some g → ¬ Tag32 w g := by
  obtain ⟨va, vb, h1, h2, h3⟩ := h
  exact h1.noTag (by decide)
/-- A map lies elsewhere than a fraction. -/
theorem MapF.ne_var {w : World} {M n b : Nat} {f : Nat → Option F} {x : F} (h : MapF w M n f) (k : VarF w b x) : b ≠ M := by
  rintro rfl
  obtain ⟨D, h1, _⟩ := h
  obtain ⟨es, c, hb⟩ := map_obj h1
  obtain ⟨va, vb, k1, _⟩ := k
  unfold Box at k1
  rw [hb] at k1; cases k1
theorem MapF.noTag {w : World} {M n : Nat} {f : Nat → Option F} (h : MapF w M n f) : ∀ g, some M = some g → ¬ Tag32 w g := by
  obtain ⟨D, h1, _⟩ := h
  exact map_noTag h1

theorem chance1_c (w : World) (R : Ro) (hv : ValidR R) (a c r : Nat) (hr : r < R.waves.length) (hac : a + c ≤ 1000) (hpos : 0 < a + c) (j k : Nat) (vis : Nat → Bool) (hj : j ≤ wv R r) (hkD : k < dN R r) (hvk : vis k = false) (v : Value) (bB sB nB M n : Nat)
    (hx : IsF w v (FQ (gN R a c r k * ex a c (wv R r) j) ((a + c) ^ cum R (r + 1)))) (hb : w.cell? ⟨bB, 1, none⟩ = some (.int .i64 ((mOf R (cum R (r + 1)) : Int) - 1))) (hbl : bB < w.heap.size) (hn : w.cell? ⟨nB, 0, none⟩ = some (.map (some M))) (hnl : nB < w.heap.size)
    (hs : VarF w sB (FQ (gS R a c r * (a + c) ^ wv R r + partS (gN R a c r) (ex a c (wv R r)) (cum R (r + 1) + 1) (mOf R (cum R (r + 1))) j vis) ((a + c) ^ cum R (r + 1))))
    (hM : MapF w M n (partF (gN R a c r) (ex a c (wv R r)) (dN R r) (mOf R (cum R (r + 1))) ((a + c) ^ cum R (r + 1)) j vis)) (hnn : n < 9223372036854775807) :
    Calls Try.prog 33 #[.int .i64 ((k + j : Nat) : Int), v, .pointer (some ⟨bB, 0, none⟩), .pointer (some ⟨sB, 0, none⟩), .pointer (some ⟨nB, 0, none⟩)] w fun e w' => (∃ u, e = .returned u) ∧
      VarF w' sB (FQ (gS R a c r * (a + c) ^ wv R r + partS (gN R a c r) (ex a c (wv R r)) (cum R (r + 1) + 1) (mOf R (cum R (r + 1))) j (fun x => decide (x = k) || vis x)) ((a + c) ^ cum R (r + 1))) ∧
      MapF w' M (n + 1) (partF (gN R a c r) (ex a c (wv R r)) (dN R r) (mOf R (cum R (r + 1))) ((a + c) ^ cum R (r + 1)) j (fun x => decide (x = k) || vis x)) ∧ Fx (fun b => b = sB ∨ b = M) w w' := by
  have hcum : cum R (r + 1) ≤ 16 := Nat.le_trans (cum_le hv (r + 1)) hv.2.1
  obtain ⟨hmle, _⟩ := goB_mOf hv hcum
  have hw := cum_wv hv hr
  have hD := dN_le r (by omega) hv
  have hgD : ∀ i, dN R r ≤ i → gN R a c r i = 0 := gN_dN R a c r
  have hdp : 0 < (a + c) ^ cum R (r + 1) := Nat.pow_pos hpos
  have hds : (limbs ((a + c) ^ cum R (r + 1))).length ≤ 32 := pow_short hac hcum (Nat.le_refl _)
  have hne := hM.ne_var hs
  by_cases hk : k + j < mOf R (cum R (r + 1))
  · have hgo := partF_go (g := gN R a c r) (e := ex a c (wv R r)) (m := mOf R (cum R (r + 1))) (d := (a + c) ^ cum R (r + 1)) (j := j) (show 0 < dN R r by omega) hvk hk
    have hpb := partN_bound hv a c hr hj (fun x => decide (x = k) || vis x) (k + j)
    rw [partN_step hvk, if_pos rfl] at hpb
    cases hf : partF (gN R a c r) (ex a c (wv R r)) (dN R r) (mOf R (cum R (r + 1))) ((a + c) ^ cum R (r + 1)) j vis (k + j) with
    | none =>
      have hz := partF_none (by omega) hgD hk hf
      refine (chance1_new w (k + j) _ v _ bB sB nB M n _ hx hb hbl hn hnl hM hnn (by omega) (by omega) hf).mono ?_
      rintro e w' ⟨he, hM', hg⟩
      refine ⟨he, ?_, hM'.cong fun i => ?_, (Fx.refl _ w).of hg (.inr rfl)⟩
      · rw [partS_go hvk hk]
        exact hs.grown hg hM.noTag (by intro e; injection e with e; exact hne e)
      · rw [hgo i, hz, Nat.zero_add]
    | some y =>
      have hy := partF_some hf
      subst hy
      refine (chance1_more w (k + j) _ v _ _ _ bB sB nB M n _ hx hb hbl hn hnl hM hnn (by omega) (by omega) hf (fq_add hdp (pow_short hac hcum hpb) hds)).mono ?_
      rintro e w' ⟨he, hM', hg⟩
      refine ⟨he, ?_, hM'.cong fun i => ?_, (Fx.refl _ w).of hg (.inr rfl)⟩
      · rw [partS_go hvk hk]
        exact hs.grown hg hM.noTag (by intro e; injection e with e; exact hne e)
      · rw [hgo i]
  · have hst := partS_stop (g := gN R a c r) (e := ex a c (wv R r)) (N := cum R (r + 1) + 1) (m := mOf R (cum R (r + 1))) (j := j) hvk (by omega) (by omega)
    have hsb := partS_bound hv a c hr hj (fun x => decide (x = k) || vis x) (mOf R (cum R (r + 1)))
    rw [hst, ← Nat.add_assoc] at hsb
    refine (chance1_stop w ((k + j : Nat) : Int) _ v _ _ _ bB sB nB hx hb hbl hs (by omega) (fq_add hdp (pow_short hac hcum hsb) hds)).mono ?_
    rintro e w' ⟨he, hs', hg⟩
    refine ⟨he, ?_, ((hM.grown hg (by intro e; injection e with e; exact hne e.symm) hs.noTag).more (Nat.le_succ n)).cong fun i => ?_, (Fx.refl _ w).of hg (.inl rfl)⟩
    · rw [hst, ← Nat.add_assoc]; exact hs'
    · rw [partF_stop hvk (by omega)]
end Go.Proofs.Ytjjefdkadgkhfaa

namespace Go.Proofs.Ytjjefdkadgkhfaa
open Go.RowKit

def btw (n lo hi : Int) : Bool := decide (lo ≤ n) && decide (n ≤ hi)
theorem btw_iff {n lo hi : Int} : btw n lo hi = true ↔ lo ≤ n ∧ n ≤ hi := by unfold btw; simp
theorem btw_no {n lo hi : Int} (h : ¬ (lo ≤ n ∧ n ≤ hi)) : btw n lo hi = false := by
  cases hb : btw n lo hi with
  | false => rfl
  | true => exact absurd (btw_iff.1 hb) h

set_option maxHeartbeats 1000000 in
theorem cbetween_c (w : World) (n lo hi : Int) : Calls Try.prog 42 #[.int .i64 n, .int .i64 lo, .int .i64 hi] w fun e w' => e = .returned (.bool (btw n lo hi)) ∧ w' = w := by
  by_cases h1 : lo ≤ n
  · by_cases h2 : n ≤ hi
    · have hs : Hid (btw n lo hi = true) := btw_iff.2 ⟨h1, h2⟩
      go_enter Try.func42, Try.ntmps42
      go_wp2
      go_ret
      exact ⟨ret_bool hs.out.symm, rfl⟩
    · have hs : Hid (btw n lo hi = false) := btw_no (fun h => h2 h.2)
      go_enter Try.func42, Try.ntmps42
      go_wp2
      go_ret
      exact ⟨ret_bool hs.out.symm, rfl⟩
  · have hs : Hid (btw n lo hi = false) := btw_no (fun h => h1 h.1)
    go_enter Try.func42, Try.ntmps42
    go_wp2
    go_ret
    exact ⟨ret_bool hs.out.symm, rfl⟩

theorem count_succ' {l : List Bool} {k : Nat} (h : k < l.length) : (l.take (k + 1)).count true = (l.take k).count true + if atb l k = true then 1 else 0 := by
  rw [List.take_succ_eq_append_getElem h, ← atb_get h, List.count_append]
  cases atb l k <;> rfl
theorem count_take_le (l : List Bool) (k : Nat) : (l.take k).count true ≤ k := Nat.le_trans List.count_le_length (by rw [List.length_take]; omega)
set_option maxHeartbeats 1000000 in
theorem failures_c (w : World) (v : Value) (bs : List Bool) (h : SlB w v bs) : Calls Try.prog 40 #[v] w fun e w' => e = .returned (.int .i64 ((bs.count true : Nat) : Int)) ∧ w' = w := by
  obtain ⟨p, c, rfl, h2, h3, _⟩ := h.shape
  have HC := Lib.hid h
  clear h
  have hlen : bs.length ≤ 9223372036854775807 := by omega
  go_enter Try.func40, Try.ntmps40
  go_wp2
  go_loop [3, 8] (fun n i => ∃ k : Nat, k ≤ bs.length ∧ i = .int .i64 (k : Int) ∧ n = .int .i64 (((bs.take k).count true : Nat) : Int)) (fun _ i => bs.length - (intOf i).toNat)
  case atStart => exact ⟨0, Nat.zero_le _, rfl, by simp⟩
  case round =>
    obtain ⟨k, hk, rfl, rfl⟩ := hrel
    by_cases hlt : k < bs.length
    · obtain ⟨b, off, rfl, hb, hc⟩ := HC.out.cells (by omega)
      have hck := hc k hlt
      have hle := count_take_le bs k
      clear hc
      cases hv : atb bs k with
      | true =>
        have HS : Hid ((bs.take (k + 1)).count true = (bs.take k).count true + 1) := by show _ = _; rw [count_succ' hlt, hv]; rfl
        rw [hv] at hck
        clear hv
        go_wp2
        go_round
        case rel => exact ⟨k + 1, by omega, by go_num, by rw [HS.out]; go_num⟩
        case measure => simp [intOf]; omega
      | false =>
        have HS : Hid ((bs.take (k + 1)).count true = (bs.take k).count true) := by show _ = _; rw [count_succ' hlt, hv]; rfl
        rw [hv] at hck
        clear hv
        go_wp2
        go_round
        case rel => exact ⟨k + 1, by omega, by go_num, by rw [HS.out]⟩
        case measure => simp [intOf]; omega
    · obtain rfl : k = bs.length := by omega
      go_wp2
      go_ret
      exact ⟨rfl, rfl⟩
end Go.Proofs.Ytjjefdkadgkhfaa
