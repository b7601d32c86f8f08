/- Memory words, more: what is kept where a set of blocks may turn.
   Walks of package canary: the closure of Chance, in the words of what stands within a wave.
   Walks of package canary: Chance, where it fails.
   Walks of package canary: what Chance keeps from wave to wave, and within a wave.
   Walks of the statements' own functions on rollouts: of, fraction, own. -/
import Derived.Test.YtebmegodeglobaaK22
import Derived.Test.YtebmegodeglobaaK19
import Derived.Test.YtebmegodeglobaaK12
import Derived.Test.YtebmegodeglobaaK20
import Derived.Test.YtebmegodeglobaaK21
import Derived.Maps.OwnIn
import Derived.Sort.LoopGhostIn
import Derived.Sort.CutIn
set_option linter.unusedVariables false
namespace Go.Proofs.Ytebmegodeglobaa
open Go.RowKit

/-- Of the blocks that were there, only those in S may have turned. -/
structure Fx (S : Nat → Prop) (w W : World) : Prop where
  os : W.os = w.os
  tape : W.tape = w.tape
  output : W.output = w.output
  size : w.heap.size ≤ W.heap.size
  block : ∀ b, b < w.heap.size → ¬ S b → W.heap[b]? = w.heap[b]?
section
variable {S : Nat → Prop} {w W W' : World}
theorem Fx.refl (S : Nat → Prop) (w : World) : Fx S w w := ⟨rfl, rfl, rfl, Nat.le_refl _, fun _ _ _ => rfl⟩
theorem Fx.grown {row : Option Nat} (h : Fx S w W) (hg : W.grownBy W' row) (hr : ∀ g, row = some g → S g ∨ w.heap.size ≤ g) : Fx S w W' :=
  ⟨hg.os.trans h.os, hg.tape.trans h.tape, hg.output.trans h.output, Nat.le_trans h.size hg.size, fun b hb hs =>
    (hg.block b (Nat.lt_of_lt_of_le hb h.size) (fun e => by rcases hr b e.symm with h1 | h1; exact hs h1; omega)).trans (h.block b hb hs)⟩
theorem Fx.below (h : Fx S w W) (hb : Below W.heap.size W W') : Fx S w W' := h.grown (grownBy_of_below hb) (fun _ e => by cases e)
theorem Fx.new {g : Nat} (h : Fx S w W) (hg : W.grownBy W' (some g)) (hn : w.heap.size ≤ g) : Fx S w W' := h.grown hg (fun g' e => by injection e with e; right; omega)
theorem Fx.of (h : Fx S w W) {g : Nat} (hg : W.grownBy W' (some g)) (hs : S g) : Fx S w W' := h.grown hg (fun g' e => by injection e with e; left; rw [← e]; exact hs)
theorem Fx.mono {T : Nat → Prop} (h : Fx S w W) (hT : ∀ b, S b → T b) : Fx T w W := ⟨h.os, h.tape, h.output, h.size, fun b hb hs => h.block b hb fun h => hs (hT b h)⟩
theorem Fx.toBelow {B : Nat} (h : Fx S w W) (hB : B ≤ w.heap.size) (hS : ∀ b, S b → B ≤ b) : Below B w W :=
  ⟨h.os, h.tape, h.output, h.size, fun b hb => h.block b (by omega) fun hs => by have := hS b hs; omega⟩
theorem Fx.trans (h : Fx S w W) (k : Fx S W W') : Fx S w W' :=
  ⟨k.os.trans h.os, k.tape.trans h.tape, k.output.trans h.output, Nat.le_trans h.size k.size, fun b hb hs => (k.block b (Nat.lt_of_lt_of_le hb h.size) hs).trans (h.block b hb hs)⟩
theorem Fx.of_below {w W : World} (h : Below w.heap.size w W) : Fx S w W := ⟨h.os, h.tape, h.output, h.size, fun b hb _ => h.block b hb⟩
theorem Box.fx {b : Nat} {cs : Array Value} {t : TypeId} (h : Box w b cs t) (hf : Fx S w W) (hb : ¬ S b) : Box W b cs t := (hf.block b h.lt hb).trans h
theorem Fx.cell {b o : Nat} {v : Value} (hf : Fx S w W) (h : w.cell? ⟨b, o, none⟩ = some v) (hb : ¬ S b) : W.cell? ⟨b, o, none⟩ = some v :=
  (World.cell?_of_block (hf.block b (World.block_lt_of_cell? w ⟨b, o, none⟩ h) hb)).trans h
theorem Sl.fx {v : Value} {l : List Nat} (h : Sl w v l) (hf : Fx S w W) (hr : ∀ g, S g → ¬ Tag32 w g) : Sl W v l := by
  obtain ⟨h0, a, cap, h1, h2, h3, h5, h6⟩ := h
  refine ⟨h0, a, cap, h1, h2, h3, ⟨h5.1, fun hl b off ha => ?_⟩, fun hl => ?_⟩
  · have ht := h5.2 hl b off ha
    have hne : ¬ S b := fun e => hr b e ht
    obtain ⟨cs, fz, ht'⟩ := ht
    exact ⟨cs, fz, (hf.block b (Tag32.lt ⟨cs, fz, ht'⟩) hne).trans ht'⟩
  · obtain ⟨b, off, ha, hlt, hc⟩ := h6 hl
    have ht := h5.2 hl b off ha
    exact ⟨b, off, ha, Nat.lt_of_lt_of_le hlt hf.size, fun i hi => hf.cell (hc i hi) fun e => hr b e ht⟩
theorem SlV.fx {v : Value} {cs : List Value} (h : SlV w v cs) (hf : Fx S w W) (hr : ∀ g o c, S g → w.cell? ⟨g, o, none⟩ = some c → c ∉ cs) : SlV W v cs := by
  obtain ⟨a, cap, h1, h2, h3, h4, h5⟩ := h
  refine ⟨a, cap, h1, h2, h3, h4, fun hl => ?_⟩
  obtain ⟨b, off, e, hlt, hc⟩ := h5 hl
  have hne : ¬ S b := fun hs => hr b _ cs[0] hs (hc 0 cs[0] (List.getElem?_eq_getElem hl)) (List.getElem_mem hl)
  exact ⟨b, off, e, Nat.lt_of_lt_of_le hlt hf.size, fun i c hi => hf.cell (hc i c hi) hne⟩
/-- The blocks of S hold neither limbs nor ints. -/
def Dull (S : Nat → Prop) (w : World) : Prop := (∀ g, S g → ¬ Tag32 w g) ∧ ∀ g o z, S g → w.cell? ⟨g, o, none⟩ ≠ some (.int .i64 z)
theorem SlI.fx {v : Value} {l : List Int} (h : SlI w v l) (hf : Fx S w W) (hd : Dull S w) : SlI W v l :=
  ⟨h.1, h.2.fx hf fun g o c hs hc hm => by obtain ⟨z, _, rfl⟩ := List.mem_map.1 hm; exact hd.2 g o z hs hc⟩
theorem IsF.fx {v : Value} {x : F} (h : IsF w v x) (hf : Fx S w W) (hd : Dull S w) : IsF W v x := by
  obtain ⟨va, vb, e, h1, h2⟩ := h
  exact ⟨va, vb, e, h1.fx hf hd.1, h2.fx hf hd.1⟩
theorem VarF.fx {b : Nat} {x : F} (h : VarF w b x) (hf : Fx S w W) (hd : Dull S w) (hb : ¬ S b) : VarF W b x := by
  obtain ⟨va, vb, e, h1, h2⟩ := h
  exact ⟨va, vb, e.fx hf hb, h1.fx hf hd.1, h2.fx hf hd.1⟩
theorem IsR.fx {v : Value} {R : Ro} (h : IsR w v R) (hf : Fx S w W) (hd : Dull S w) : IsR W v R := by
  obtain ⟨vh, vw, va, vb, vc, vd, e, h1, h2, h3, h4, h5, h6⟩ := h
  exact ⟨vh, vw, va, vb, vc, vd, e, h1.fx hf hd, h2.fx hf hd, h3.fx hf hd.1, h4.fx hf hd.1, h5.fx hf hd.1, h6.fx hf hd.1⟩
end
theorem Dull.two {w : World} {s g : Nat} {x : F} {M : Nat} (h1 : VarF w s x) (h2 : Box w g #[.map (some M)] 62) : Dull (fun b => b = s ∨ b = g) w := by
  obtain ⟨va, vb, hb, k1, k2⟩ := h1
  obtain ⟨p, cp, rfl, _, _⟩ := k1.shape
  obtain ⟨q, cq, rfl, _, _⟩ := k2.shape
  refine ⟨?_, ?_⟩
  · rintro b (rfl | rfl)
    · exact hb.noTag (by decide) _ rfl
    · exact h2.noTag (by decide) _ rfl
  · rintro b o z (rfl | rfl) h
    · rw [hb.cell] at h
      rcases o with _ | _ | _ | o
      · simp at h
      · simp at h
      · simp at h
      · simp at h
    · rw [h2.cell] at h
      rcases o with _ | o
      · simp at h
      · simp at h
theorem MapF.fx {S : Nat → Prop} {w W : World} {M n : Nat} {f : Nat → Option F} (h : MapF w M n f) (hf : Fx S w W) (hd : Dull S w) (hM : ¬ S M) : MapF W M n f := by
  obtain ⟨D, h1, h2⟩ := h
  refine ⟨D, ?_, h2.1, fun k x hk => ?_⟩
  · obtain ⟨es, clock, hb, h4⟩ := h1
    exact ⟨es, clock, (hf.block M (Array.getElem?_eq_some_iff.1 hb).1 hM).trans hb, h4⟩
  · obtain ⟨g1, v, g2, g3⟩ := h2.2 k x hk
    exact ⟨g1, v, g2, g3.fx hf hd⟩
theorem MapF.more {w : World} {M n m : Nat} {f : Nat → Option F} (h : MapF w M n f) (hn : n ≤ m) : MapF w M m f := by
  obtain ⟨D, h1, h2⟩ := h
  exact ⟨D, h1.mono hn, h2⟩
theorem MapF.cong {w : World} {M n : Nat} {f g : Nat → Option F} (h : MapF w M n f) (hfg : ∀ k, f k = g k) : MapF w M n g := by
  rw [← show f = g from funext hfg]; exact h
end Go.Proofs.Ytebmegodeglobaa

namespace Go.Proofs.Ytebmegodeglobaa
open Go.RowKit

theorem VarF.noTag {w : World} {b : Nat} {x : F} (h : VarF w b x) : ∀ g, some b = some g → ¬ Tag32 w g := by
  obtain ⟨va, vb, h1, h2, h3⟩ := h
  exact h1.noTag (by decide)
/-- A map lies elsewhere than a fraction. -/
theorem MapF.ne_var {w : World} {M n b : Nat} {f : Nat → Option F} {x : F} (h : MapF w M n f) (k : VarF w b x) : b ≠ M := by
  rintro rfl
  obtain ⟨D, h1, _⟩ := h
  obtain ⟨es, c, hb⟩ := map_obj h1
  obtain ⟨va, vb, k1, _⟩ := k
  unfold Box at k1
  rw [hb] at k1; cases k1
theorem MapF.noTag {w : World} {M n : Nat} {f : Nat → Option F} (h : MapF w M n f) : ∀ g, some M = some g → ¬ Tag32 w g := by
  obtain ⟨D, h1, _⟩ := h
  exact map_noTag h1

theorem chance1_c (w : World) (R : Ro) (hv : ValidR R) (a c r : Nat) (hr : r < R.waves.length) (hac : a + c ≤ 1000) (hpos : 0 < a + c) (j k : Nat) (vis : Nat → Bool) (hj : j ≤ wv R r) (hkD : k < dN R r) (hvk : vis k = false) (v : Value) (bB sB nB M n : Nat)
    (hx : IsF w v (FQ (gN R a c r k * ex a c (wv R r) j) ((a + c) ^ cum R (r + 1)))) (hb : w.cell? ⟨bB, 1, none⟩ = some (.int .i64 ((mOf R (cum R (r + 1)) : Int) - 1))) (hbl : bB < w.heap.size) (hn : w.cell? ⟨nB, 0, none⟩ = some (.map (some M))) (hnl : nB < w.heap.size)
    (hs : VarF w sB (FQ (gS R a c r * (a + c) ^ wv R r + partS (gN R a c r) (ex a c (wv R r)) (cum R (r + 1) + 1) (mOf R (cum R (r + 1))) j vis) ((a + c) ^ cum R (r + 1))))
    (hM : MapF w M n (partF (gN R a c r) (ex a c (wv R r)) (dN R r) (mOf R (cum R (r + 1))) ((a + c) ^ cum R (r + 1)) j vis)) (hnn : n < 9223372036854775807) :
    Calls Try.prog 21 #[.int .i64 ((k + j : Nat) : Int), v, .pointer (some ⟨bB, 0, none⟩), .pointer (some ⟨sB, 0, none⟩), .pointer (some ⟨nB, 0, none⟩)] w fun e w' => (∃ u, e = .returned u) ∧
      VarF w' sB (FQ (gS R a c r * (a + c) ^ wv R r + partS (gN R a c r) (ex a c (wv R r)) (cum R (r + 1) + 1) (mOf R (cum R (r + 1))) j (fun x => decide (x = k) || vis x)) ((a + c) ^ cum R (r + 1))) ∧
      MapF w' M (n + 1) (partF (gN R a c r) (ex a c (wv R r)) (dN R r) (mOf R (cum R (r + 1))) ((a + c) ^ cum R (r + 1)) j (fun x => decide (x = k) || vis x)) ∧ Fx (fun b => b = sB ∨ b = M) w w' := by
  have hcum : cum R (r + 1) ≤ 16 := Nat.le_trans (cum_le hv (r + 1)) hv.2.1
  obtain ⟨hmle, _⟩ := goB_mOf hv hcum
  have hw := cum_wv hv hr
  have hD := dN_le r (by omega) hv
  have hgD : ∀ i, dN R r ≤ i → gN R a c r i = 0 := gN_dN R a c r
  have hdp : 0 < (a + c) ^ cum R (r + 1) := Nat.pow_pos hpos
  have hds : (limbs ((a + c) ^ cum R (r + 1))).length ≤ 32 := pow_short hac hcum (Nat.le_refl _)
  have hne := hM.ne_var hs
  by_cases hk : k + j < mOf R (cum R (r + 1))
  · have hgo := partF_go (g := gN R a c r) (e := ex a c (wv R r)) (m := mOf R (cum R (r + 1))) (d := (a + c) ^ cum R (r + 1)) (j := j) (show 0 < dN R r by omega) hvk hk
    have hpb := partN_bound hv a c hr hj (fun x => decide (x = k) || vis x) (k + j)
    rw [partN_step hvk, if_pos rfl] at hpb
    cases hf : partF (gN R a c r) (ex a c (wv R r)) (dN R r) (mOf R (cum R (r + 1))) ((a + c) ^ cum R (r + 1)) j vis (k + j) with
    | none =>
      have hz := partF_none (by omega) hgD hk hf
      refine (chance1_new w (k + j) _ v _ bB sB nB M n _ hx hb hbl hn hnl hM hnn (by omega) (by omega) hf).mono ?_
      rintro e w' ⟨he, hM', hg⟩
      refine ⟨he, ?_, hM'.cong fun i => ?_, (Fx.refl _ w).of hg (.inr rfl)⟩
      · rw [partS_go hvk hk]
        exact hs.grown hg hM.noTag (by intro e; injection e with e; exact hne e)
      · rw [hgo i, hz, Nat.zero_add]
    | some y =>
      have hy := partF_some hf
      subst hy
      refine (chance1_more w (k + j) _ v _ _ _ bB sB nB M n _ hx hb hbl hn hnl hM hnn (by omega) (by omega) hf (fq_add hdp (pow_short hac hcum hpb) hds)).mono ?_
      rintro e w' ⟨he, hM', hg⟩
      refine ⟨he, ?_, hM'.cong fun i => ?_, (Fx.refl _ w).of hg (.inr rfl)⟩
      · rw [partS_go hvk hk]
        exact hs.grown hg hM.noTag (by intro e; injection e with e; exact hne e)
      · rw [hgo i]
  · have hst := partS_stop (g := gN R a c r) (e := ex a c (wv R r)) (N := cum R (r + 1) + 1) (m := mOf R (cum R (r + 1))) (j := j) hvk (by omega) (by omega)
    have hsb := partS_bound hv a c hr hj (fun x => decide (x = k) || vis x) (mOf R (cum R (r + 1)))
    rw [hst, ← Nat.add_assoc] at hsb
    refine (chance1_stop w ((k + j : Nat) : Int) _ v _ _ _ bB sB nB hx hb hbl hs (by omega) (fq_add hdp (pow_short hac hcum hsb) hds)).mono ?_
    rintro e w' ⟨he, hs', hg⟩
    refine ⟨he, ?_, ((hM.grown hg (by intro e; injection e with e; exact hne e.symm) hs.noTag).more (Nat.le_succ n)).cong fun i => ?_, (Fx.refl _ w).of hg (.inl rfl)⟩
    · rw [hst, ← Nat.add_assoc]; exact hs'
    · rw [partF_stop hvk (by omega)]
end Go.Proofs.Ytebmegodeglobaa

namespace Go.Proofs.Ytebmegodeglobaa
open Go.RowKit

theorem exactly_err {n k r : Int} {x : F} (hr : rateE x = r) (h : r ≠ 0) : exactlyF n k x = (F0, r) := by
  unfold exactlyF; rw [checkE_bad (by rw [hr]; exact h), hr, if_neg h]
/-- The parameters of Chance in their own variables, and its result. -/
theorem start_ch (w : World) (c1 c2 c3 : Array Value) (t1 t2 t3 : TypeId) :
    ∃ W0, W0 = ((w.alloc (.cells c1 t1)).alloc (.cells c2 t2)).alloc (.cells c3 t3) ∧ Box W0 w.heap.size c1 t1 ∧ Box W0 (w.heap.size + 1) c2 t2 ∧ Box W0 (w.heap.size + 2) c3 t3 ∧ Below w.heap.size w W0 ∧ W0.heap.size = w.heap.size + 3 := by
  have hb1 : Below w.heap.size w (w.alloc (.cells c1 t1)) := held_alloc (Below.refl _ w)
  have b1 := Box.new w c1 t1
  have b2 := Box.new (w.alloc (.cells c1 t1)) c2 t2
  have b3 := Box.new ((w.alloc (.cells c1 t1)).alloc (.cells c2 t2)) c3 t3
  have e1 : (w.alloc (.cells c1 t1)).heap.size = w.heap.size + 1 := by simp
  have e2 : ((w.alloc (.cells c1 t1)).alloc (.cells c2 t2)).heap.size = w.heap.size + 2 := by simp
  rw [e1] at b2
  rw [e2] at b3
  exact ⟨_, rfl, (b1.alloc _).alloc _, b2.alloc _, b3, held_alloc (held_alloc hb1), by simp⟩

set_option maxRecDepth 100000 in
set_option maxHeartbeats 4000000 in
theorem cChance_invalid (w : World) (v u : Value) (R : Ro) (x : F) (h : IsR w v R) (hp : IsF w u x) (hv : ¬ ValidR R) : Calls Try.prog 10 #[v, u] w (RetF w (chanceF R x)) := by
  have hspec : Hid (chanceF R x = (F0, 1)) := by show _ = _; unfold chanceF; rw [if_pos (.inl hv)]
  have HX := h
  obtain ⟨p0, p1, p2, p3, p4, p5, k0, k1, k2, k3, k4, k5, rfl, _, _, _, _⟩ := h.open
  obtain ⟨va, vb, rfl, h1, h2⟩ := hp
  obtain ⟨p, cp, rfl, _, _⟩ := h1.shape
  obtain ⟨q, cq, rfl, _, _⟩ := h2.shape
  obtain ⟨W0, hW, bR, bP, bO, hb0, hsz⟩ := start_ch w #[.slice p0 R.hosts.length k0, .slice p1 R.waves.length k1, .bool R.rate.neg, .slice p2 R.rate.num.length k2, .slice p3 R.rate.den.length k3, .bool R.bound.neg, .slice p4 R.bound.num.length k4, .slice p5 R.bound.den.length k5] #[.bool x.neg, .slice p x.num.length cp, .slice q x.den.length cq] #[.bool false, .slice none 0 0, .slice none 0 0] 28 26 26
  obtain ⟨x0, x1, x2⟩ := bP.cells3
  have hl : w.heap.size + 2 < W0.heap.size := by omega
  have HP := Lib.hid (HX.after hb0)
  have HF := Lib.hid (show IsF W0 (.agg #[.bool x.neg, .slice p x.num.length cp, .slice q x.den.length cq]) x from ⟨_, _, rfl, h1.after hb0, h2.after hb0⟩)
  have HB0 := Lib.hid hb0
  have BR := Lib.hid bR
  have BO := Lib.hid bO
  have HV := Lib.hid hv
  clear HX h h1 h2 bR bP bO hb0 hsz hv
  go_enter Try.func10, Try.ntmps10
  go_upto_region 1 with fail
  rw [← hW]
  clear hW
  go_wp2_with fail
  refine (tExactly_c _ _ _ _ x HF.out).mono ?_
  obtain ⟨o, ho⟩ : ∃ o, exactlyF 0 0 x = o := ⟨_, rfl⟩
  rw [ho]
  clear ho
  rintro e w1 ⟨v1, rfl, hv1, hb1⟩
  obtain ⟨vc, vd, rfl, h1, h2⟩ := hv1
  obtain ⟨pp, cpp, rfl, _, _⟩ := h1.shape
  obtain ⟨qq, cqq, rfl, _, _⟩ := h2.shape
  go_upto_region 2 with fail
  obtain ⟨W2, hW2⟩ : ∃ W2, W2 = w1.alloc (.cells #[.bool o.1.neg, .slice pp o.1.num.length cpp, .slice qq o.1.den.length cqq] 26) := ⟨_, rfl⟩
  have hb2 : Below w1.heap.size w1 W2 := hW2 ▸ held_alloc (Below.refl _ w1)
  have hb12 := hb1.trans (hb2.mono hb1.size)
  obtain ⟨c0, c1, c2, c3, c4, c5, c6, c7⟩ := (BR.out.after hb12).cells8
  have HP2 := Lib.hid (HP.out.after hb12)
  have BO2 := Lib.hid (BO.out.after hb12)
  have HB2 := Lib.hid (HB0.out.trans (hb12.mono HB0.out.size))
  rw [← hW2]
  clear hW2 hb2 hb12 hb1 h1 h2 x0 x1 x2 HP HF HB0 BR BO
  go_wp2_with fail
  refine (cValid_c _ _ R HP2.out).mono ?_
  intro e w3 hr
  obtain ⟨rfl, hb3⟩ := hr.no HV.out
  have bo := BO2.out.after hb3
  obtain ⟨z0, z1, z2⟩ := bo.cells3
  have f0 := bo.frozen 0
  have f1 := bo.frozen 1
  have f2 := bo.frozen 2
  have hb := HB2.out.trans (hb3.mono HB2.out.size)
  have HEND := Lib.hid (show Below w.heap.size w (((w3.setCell ⟨w.heap.size + 2, 0, none⟩ (.bool false)).setCell ⟨w.heap.size + 2, 1, none⟩ (.slice none 0 0)).setCell ⟨w.heap.size + 2, 2, none⟩ (.slice none 0 0)) from ((hb.setCell (p := ⟨w.heap.size + 2, 0, none⟩) (by simp) _).setCell (p := ⟨w.heap.size + 2, 1, none⟩) (by simp) _).setCell (p := ⟨w.heap.size + 2, 2, none⟩) (by simp) _)
  clear hr hb3 bo hb c0 c1 c2 c3 c4 c5 c6 c7 HP2 BO2 HB2
  go_wp2_with fail
  refine bodyPost_ret (v := .tuple #[.agg #[.bool false, .slice none 0 0, .slice none 0 0], .int .i64 1]) (by simp [results, Try.results10, go_sem, z0, z1, z2]) rfl ?_
  rw [hspec.out]
  exact ⟨_, rfl, IsF.zero _, HEND.out⟩

set_option maxRecDepth 100000 in
set_option maxHeartbeats 4000000 in
theorem cChance_rate (w : World) (v u : Value) (R : Ro) (x : F) (h : IsR w v R) (hp : IsF w u x) (hv : ValidR R) (hr : rateE x ≠ 0) : Calls Try.prog 10 #[v, u] w (RetF w (chanceF R x)) := by
  obtain ⟨r, hr1⟩ : ∃ r, rateE x = r := ⟨_, rfl⟩
  have hcs := rateE_cases x
  rw [hr1] at hr hcs
  have hspec : Hid (chanceF R x = (F0, r)) := by
    show _ = _
    unfold chanceF
    rcases hcs with h0 | h0 | h0
    · exact absurd h0 hr
    · rw [h0, if_pos (.inr (hr1.trans h0))]
    · rw [h0, if_neg (by rw [hr1, h0]; rintro (h | h); exact h hv; omega), if_neg (by rw [hr1, h0]; omega)]
  have hex := exactly_err (n := 0) (k := 0) hr1 hr
  have HX := h
  obtain ⟨p0, p1, p2, p3, p4, p5, k0, k1, k2, k3, k4, k5, rfl, _, _, _, _⟩ := h.open
  obtain ⟨va, vb, rfl, h1, h2⟩ := hp
  obtain ⟨p, cp, rfl, _, _⟩ := h1.shape
  obtain ⟨q, cq, rfl, _, _⟩ := h2.shape
  obtain ⟨W0, hW, bR, bP, bO, hb0, hsz⟩ := start_ch w #[.slice p0 R.hosts.length k0, .slice p1 R.waves.length k1, .bool R.rate.neg, .slice p2 R.rate.num.length k2, .slice p3 R.rate.den.length k3, .bool R.bound.neg, .slice p4 R.bound.num.length k4, .slice p5 R.bound.den.length k5] #[.bool x.neg, .slice p x.num.length cp, .slice q x.den.length cq] #[.bool false, .slice none 0 0, .slice none 0 0] 28 26 26
  obtain ⟨x0, x1, x2⟩ := bP.cells3
  have hl : w.heap.size + 2 < W0.heap.size := by omega
  have HP := Lib.hid (HX.after hb0)
  have HF := Lib.hid (show IsF W0 (.agg #[.bool x.neg, .slice p x.num.length cp, .slice q x.den.length cq]) x from ⟨_, _, rfl, h1.after hb0, h2.after hb0⟩)
  have HB0 := Lib.hid hb0
  have BR := Lib.hid bR
  have BO := Lib.hid bO
  have HV := Lib.hid hv
  have HEX := Lib.hid hex
  clear HX h h1 h2 bR bP bO hb0 hsz hv hr1 hex
  go_enter Try.func10, Try.ntmps10
  go_upto_region 1 with fail
  rw [← hW]
  clear hW
  go_wp2_with fail
  refine (tExactly_c _ _ _ _ x HF.out).mono ?_
  rw [HEX.out]
  rintro e w1 ⟨v1, rfl, hv1, hb1⟩
  obtain ⟨o, ho⟩ : ∃ o : F, F0 = o := ⟨_, rfl⟩
  simp only [] at hv1
  rw [ho] at hv1
  clear ho
  obtain ⟨vc, vd, rfl, h1, h2⟩ := hv1
  obtain ⟨pp, cpp, rfl, _, _⟩ := h1.shape
  obtain ⟨qq, cqq, rfl, _, _⟩ := h2.shape
  go_upto_region 2 with fail
  obtain ⟨W2, hW2⟩ : ∃ W2, W2 = w1.alloc (.cells #[.bool o.neg, .slice pp o.num.length cpp, .slice qq o.den.length cqq] 26) := ⟨_, rfl⟩
  have hb2 : Below w1.heap.size w1 W2 := hW2 ▸ held_alloc (Below.refl _ w1)
  have hb12 := hb1.trans (hb2.mono hb1.size)
  obtain ⟨c0, c1, c2, c3, c4, c5, c6, c7⟩ := (BR.out.after hb12).cells8
  have HP2 := Lib.hid (HP.out.after hb12)
  have BO2 := Lib.hid (BO.out.after hb12)
  have HB2 := Lib.hid (HB0.out.trans (hb12.mono HB0.out.size))
  rw [← hW2]
  clear hW2 hb2 hb12 hb1 h1 h2 x0 x1 x2 HP HF HB0 BR BO
  go_wp2_with fail
  refine (cValid_c _ _ R HP2.out).mono ?_
  intro e w3 hrr
  obtain ⟨rfl, hb3⟩ := hrr.yes HV.out
  have bo := BO2.out.after hb3
  obtain ⟨z0, z1, z2⟩ := bo.cells3
  have f0 := bo.frozen 0
  have f1 := bo.frozen 1
  have f2 := bo.frozen 2
  have hb := HB2.out.trans (hb3.mono HB2.out.size)
  have HEND := Lib.hid (show Below w.heap.size w (((w3.setCell ⟨w.heap.size + 2, 0, none⟩ (.bool false)).setCell ⟨w.heap.size + 2, 1, none⟩ (.slice none 0 0)).setCell ⟨w.heap.size + 2, 2, none⟩ (.slice none 0 0)) from ((hb.setCell (p := ⟨w.heap.size + 2, 0, none⟩) (by simp) _).setCell (p := ⟨w.heap.size + 2, 1, none⟩) (by simp) _).setCell (p := ⟨w.heap.size + 2, 2, none⟩) (by simp) _)
  clear hrr hb3 bo hb c0 c1 c2 c3 c4 c5 c6 c7 HP2 BO2 HB2
  rcases hcs with h0 | rfl | rfl
  · exact absurd h0 hr
  · go_wp2_with fail
    refine bodyPost_ret (v := .tuple #[.agg #[.bool false, .slice none 0 0, .slice none 0 0], .int .i64 1]) (by simp [results, Try.results10, go_sem, z0, z1, z2]) rfl ?_
    rw [hspec.out]
    exact ⟨_, rfl, IsF.zero _, HEND.out⟩
  · go_wp2_with fail
    refine bodyPost_ret (v := .tuple #[.agg #[.bool false, .slice none 0 0, .slice none 0 0], .int .i64 2]) (by simp [results, Try.results10, go_sem, z0, z1, z2]) rfl ?_
    rw [hspec.out]
    exact ⟨_, rfl, IsF.zero _, HEND.out⟩
end Go.Proofs.Ytebmegodeglobaa

namespace Go.Proofs.Ytebmegodeglobaa
open Go.RowKit

theorem Fx.via {S T : Nat → Prop} {w W W' : World} (h : Fx S w W) (k : Fx T W W') (hT : ∀ g, T g → S g ∨ w.heap.size ≤ g) : Fx S w W' :=
  ⟨k.os.trans h.os, k.tape.trans h.tape, k.output.trans h.output, Nat.le_trans h.size k.size, fun b hb hs =>
    (k.block b (Nat.lt_of_lt_of_le hb h.size) (fun e => by rcases hT b e with h1 | h1; exact hs h1; omega)).trans (h.block b hb hs)⟩
/-- Block g holds no cells. -/
def NoCells (w : World) (g : Nat) : Prop := ∀ cs t fz, w.heap[g]? ≠ some (.cells cs t fz)
theorem NoCells.noTag {w : World} {g : Nat} (h : NoCells w g) : ¬ Tag32 w g := by rintro ⟨cs, fz, h'⟩; exact h _ _ _ h'
theorem NoCells.cell {w : World} {g : Nat} (h : NoCells w g) (o : Nat) (v : Value) : w.cell? ⟨g, o, none⟩ ≠ some v := by
  intro hc
  unfold World.cell? at hc
  cases hb : w.heap[g]? with
  | none => simp [hb] at hc
  | some ob => cases ob <;> simp [hb] at hc <;> exact h _ _ _ hb
theorem MapF.noCells {w : World} {M n : Nat} {f : Nat → Option F} (h : MapF w M n f) : NoCells w M := by
  obtain ⟨D, h1, _⟩ := h
  obtain ⟨es, c, hb⟩ := map_obj h1
  intro cs t fz h'
  rw [hb] at h'; cases h'
/-- A variable of a fraction, of a map, or no cells: nothing that bears limbs or ints. -/
theorem Dull.of {S : Nat → Prop} {w : World} (h : ∀ g, S g → (∃ x, VarF w g x) ∨ (∃ m, Box w g #[.map m] 62) ∨ NoCells w g) : Dull S w := by
  refine ⟨fun g hg => ?_, fun g o z hg hc => ?_⟩
  · rcases h g hg with ⟨x, h1⟩ | ⟨m, h1⟩ | h1
    · exact h1.noTag _ rfl
    · exact h1.noTag (by decide) _ rfl
    · exact h1.noTag
  · rcases h g hg with ⟨x, va, vb, hb, k1, k2⟩ | ⟨m, h1⟩ | h1
    · obtain ⟨p, cp, rfl, _, _⟩ := k1.shape
      obtain ⟨q, cq, rfl, _, _⟩ := k2.shape
      rw [hb.cell] at hc
      rcases o with _ | _ | _ | o <;> simp at hc
    · rw [h1.cell] at hc
      rcases o with _ | o <;> simp at hc
    · exact h1.cell _ _ hc
theorem MapF.soft {w w' : World} {M n l : Nat} {f : Nat → Option F} (h : MapF w M n f) (hs : Soft w l) (hg : w.grownBy w' (some l)) : MapF w' M n f := by
  refine h.grown hg ?_ hs.noTag
  intro e
  injection e with e
  obtain ⟨D, h1, _⟩ := h
  exact map_notSoft h1 (e ▸ hs)
theorem VarF.soft {w w' : World} {b l : Nat} {x : F} (h : VarF w b x) (hs : Soft w l) (hg : w.grownBy w' (some l)) : VarF w' b x := by
  obtain ⟨va, vb, h1, h2, h3⟩ := h
  exact ⟨va, vb, h1.soft hs hg, h2.soft hs hg, h3.soft hs hg⟩

/-- The blocks that Chance turns from wave to wave. -/
def chS (sB gB : Nat) : Nat → Prop := fun b => b = sB ∨ b = gB
/-- Behind r waves. -/
def CJ (R : Ro) (a c : Nat) (W1 : World) (sB gB r : Nat) (W : World) : Prop :=
  VarF W sB (FQ (gS R a c r) ((a + c) ^ cum R r)) ∧ (∃ M n, Box W gB #[.map (some M)] 62 ∧ MapF W M n (goingF R a c r) ∧ n ≤ 2 ^ cum R r) ∧ Fx (chS sB gB) W1 W
theorem CJ.after {R : Ro} {a c : Nat} {W1 : World} {sB gB r : Nat} {W W' : World} (h : CJ R a c W1 sB gB r W) (hb : Below W.heap.size W W') : CJ R a c W1 sB gB r W' := by
  obtain ⟨h1, ⟨M, n, h2, h3, h4⟩, h5⟩ := h
  exact ⟨h1.after hb, ⟨M, n, h2.after hb, h3.after hb, h4⟩, h5.below hb⟩
theorem CJ.soft {R : Ro} {a c : Nat} {W1 : World} {sB gB r l : Nat} {W W' : World} (h : CJ R a c W1 sB gB r W) (hl : W1.heap.size ≤ l) (hs : Soft W l) (hg : W.grownBy W' (some l)) : CJ R a c W1 sB gB r W' := by
  obtain ⟨h1, ⟨M, n, h2, h3, h4⟩, h5⟩ := h
  exact ⟨h1.soft hs hg, ⟨M, n, h2.soft hs hg, h3.soft hs hg, h4⟩, h5.new hg hl⟩
theorem CJ.dull {R : Ro} {a c : Nat} {W1 : World} {sB gB r : Nat} {W : World} (h : CJ R a c W1 sB gB r W) : Dull (chS sB gB) W := by
  obtain ⟨h1, ⟨M, n, h2, h3, h4⟩, h5⟩ := h
  refine Dull.of fun g hg => ?_
  rcases hg with rfl | rfl
  · exact .inl ⟨_, h1⟩
  · exact .inr (.inl ⟨_, h2⟩)

/-- Within a wave: the values below j, and value j at the keys met. n bounds the entries of the next map. -/
def PJ (R : Ro) (a c r : Nat) (W4 : World) (sB M' n j : Nat) (vis : Nat → Bool) (W : World) : Prop :=
  VarF W sB (FQ (gS R a c r * (a + c) ^ wv R r + partS (gN R a c r) (ex a c (wv R r)) (cum R (r + 1) + 1) (mOf R (cum R (r + 1))) j vis) ((a + c) ^ cum R (r + 1))) ∧
  MapF W M' n (partF (gN R a c r) (ex a c (wv R r)) (dN R r) (mOf R (cum R (r + 1))) ((a + c) ^ cum R (r + 1)) j vis) ∧ Fx (chS sB M') W4 W
theorem PJ.after {R : Ro} {a c r : Nat} {W4 : World} {sB M' n j : Nat} {vis : Nat → Bool} {W W' : World} (h : PJ R a c r W4 sB M' n j vis W) (hb : Below W.heap.size W W') : PJ R a c r W4 sB M' n j vis W' :=
  ⟨h.1.after hb, h.2.1.after hb, h.2.2.below hb⟩
theorem PJ.new {R : Ro} {a c r : Nat} {W4 : World} {sB M' n j g : Nat} {vis : Nat → Bool} {W W' : World} (h : PJ R a c r W4 sB M' n j vis W) (hg : W.grownBy W' (some g)) (hn : W4.heap.size ≤ g) (hc : NoCells W g) (hs : g ≠ M') : PJ R a c r W4 sB M' n j vis W' := by
  refine ⟨h.1.grown hg (fun g' e => by injection e with e; subst e; exact hc.noTag) ?_, h.2.1.grown hg (by intro e; injection e with e; exact hs e.symm) (fun g' e => by injection e with e; subst e; exact hc.noTag), h.2.2.new hg hn⟩
  intro e
  injection e with e
  subst e
  obtain ⟨va, vb, hb, _⟩ := h.1
  exact hc _ _ _ hb
theorem PJ.dull {R : Ro} {a c r : Nat} {W4 : World} {sB M' n j : Nat} {vis : Nat → Bool} {W : World} (h : PJ R a c r W4 sB M' n j vis W) : Dull (chS sB M') W := by
  refine Dull.of fun g hg => ?_
  rcases hg with rfl | rfl
  · exact .inl ⟨_, h.1⟩
  · exact .inr (.inr h.2.1.noCells)
/-- At the start of a wave, with an empty map of its own. -/
theorem PJ.start {R : Ro} {a c : Nat} {W4 : World} {sB M' r : Nat} (hv : ValidR R) (hr : r < R.waves.length) (hpos : 0 < a + c) (h : VarF W4 sB (FQ (gS R a c r) ((a + c) ^ cum R r))) (hM : MapF W4 M' 0 (fun _ => none)) : PJ R a c r W4 sB M' 0 0 (fun _ => false) W4 := by
  refine ⟨?_, hM.cong fun k => (partF_start _ _ _ _ _ k).symm, Fx.refl _ _⟩
  rw [partS_zero, Nat.add_zero, ← (cum_wv hv hr).1, Nat.pow_add, fq_scale (Nat.pow_pos hpos) (Nat.pow_pos hpos)]
  exact h
/-- All keys met: the next value. -/
theorem PJ.next {R : Ro} {a c r : Nat} {W4 : World} {sB M' n j : Nat} {vis : Nat → Bool} {W : World} (h : PJ R a c r W4 sB M' n j vis W) (hv : ∀ k, vis k = true ↔ k < dN R r) : PJ R a c r W4 sB M' n (j + 1) (fun _ => false) W := by
  refine ⟨?_, h.2.1.cong fun k => partF_all hv (gN_dN R a c r), h.2.2⟩
  rw [← partS_all (fun k hk => (hv k).2 hk) (gN_dN R a c r)]
  exact h.1
/-- The end of a wave. -/
theorem PJ.last {R : Ro} {a c r : Nat} {W4 : World} {sB M' n : Nat} {W : World} (hv : ValidR R) (hr : r < R.waves.length) (h : PJ R a c r W4 sB M' n (wv R r + 1) (fun _ => false) W) :
    VarF W sB (FQ (gS R a c (r + 1)) ((a + c) ^ cum R (r + 1))) ∧ MapF W M' n (goingF R a c (r + 1)) := by
  refine ⟨?_, h.2.1.cong fun k => partF_end (cum_wv hv hr).1 k⟩
  rw [gS_part]
  exact h.1
/-- How many entries there may be. -/
theorem entries_bound {R : Ro} {r C n : Nat} (hw : cum R r + wv R r = cum R (r + 1)) (hC : C ≤ 2 ^ cum R r) (hn : n ≤ (wv R r + 1) * C) : n ≤ 2 ^ cum R (r + 1) := by
  have h1 : wv R r + 1 ≤ 2 ^ wv R r := Nat.lt_two_pow_self
  rw [← hw, Nat.pow_add]
  calc n ≤ (wv R r + 1) * C := hn
    _ ≤ 2 ^ wv R r * 2 ^ cum R r := Nat.mul_le_mul h1 hC
    _ = 2 ^ cum R r * 2 ^ wv R r := Nat.mul_comm _ _
theorem below_of_grown {w w' : World} (h : w.grownBy w' none) : Below w.heap.size w w' := ⟨h.os, h.tape, h.output, h.size, fun k hk => h.block k hk (by simp)⟩
theorem KeepSoft.fx {B : Nat} {w0 w W : World} {S : Nat → Prop} (h : KeepSoft B w0 w) (hf : Fx S w W) (hs : ∀ g, S g → ¬ Soft w g) : KeepSoft B w0 W :=
  h.trans ⟨hf.size, fun b _ hb => hf.block b hb.lt fun e => hs b e hb⟩
theorem PJ.notSoft {R : Ro} {a c r : Nat} {W4 : World} {sB M' n j : Nat} {vis : Nat → Bool} {W : World} (h : PJ R a c r W4 sB M' n j vis W) : ∀ g, chS sB M' g → ¬ Soft W g := by
  rintro g (rfl | rfl) hs
  · obtain ⟨va, vb, hb, _⟩ := h.1
    exact hs.ne_box hb rfl
  · obtain ⟨D, h1, _⟩ := h.2.1
    exact map_notSoft h1 hs
/-- A wave's end: the variable of the map is turned. -/
theorem CJ.next {R : Ro} {a c r : Nat} {W1 W4 wr : World} {sB gB M M' n' : Nat} (hv : ValidR R) (hr : r < R.waves.length) (hne : sB ≠ gB) (hM1 : W1.heap.size ≤ M') (hgM : gB ≠ M') (hg4 : gB < W4.heap.size)
    (hf4 : Fx (chS sB gB) W1 W4) (hG : Box W4 gB #[.map (some M)] 62) (hn : n' ≤ (wv R r + 1) * 2 ^ cum R r) (hp : PJ R a c r W4 sB M' n' (wv R r + 1) (fun _ => false) wr) :
    CJ R a c W1 sB gB (r + 1) (wr.setCell ⟨gB, 0, none⟩ (.map (some M'))) := by
  obtain ⟨h1, h2⟩ := hp.last hv hr
  have hG' := hG.fx hp.2.2 (by rintro (e | e); exact hne e.symm; exact hgM e)
  have hg := grown_set wr gB 0 (.map (some M'))
  refine ⟨h1.grown hg (hG'.noTag (by decide)) (by intro e; injection e with e; exact hne e), ⟨M', n', ?_, h2.grown hg (by intro e; injection e with e; exact hgM e.symm) (hG'.noTag (by decide)), entries_bound (cum_wv hv hr).1 (Nat.le_refl _) hn⟩, ?_⟩
  · have := hG'.set 0 (.map (some M'))
    simpa using this
  · exact (hf4.via hp.2.2 (by rintro g (rfl | rfl); exact .inl (.inl rfl); exact .inr hM1)).of hg (.inr rfl)

/-- Which keys of the map are still to come. -/
def LJ (R : Ro) (r : Nat) (left : Lit → Bool) (vis : Nat → Bool) : Prop :=
  (∀ kl, left kl = true → ∃ k : Nat, kl = .int .i64 (k : Int) ∧ k < dN R r ∧ vis k = false) ∧ (∀ k, k < dN R r → vis k = true ∨ left (.int .i64 (k : Int)) = true) ∧ ∀ k, vis k = true → k < dN R r
theorem LJ.start {R : Ro} {a c r : Nat} {w : World} {D : DataW Value} (h : MapD w D (goingF R a c r)) : LJ R r (Maps.has D) (fun _ => false) := by
  refine ⟨fun kl hk => ?_, fun k hk => .inr (h.2 k _ (goingF_yes hk)).1, fun k hk => by cases hk⟩
  obtain ⟨k, rfl, hs⟩ := h.1 kl hk
  refine ⟨k, rfl, ?_, rfl⟩
  rcases Nat.lt_or_ge k (dN R r) with h1 | h1
  · exact h1
  · rw [goingF_no h1] at hs; cases hs
theorem LJ.step {R : Ro} {r k : Nat} {left : Lit → Bool} {vis : Nat → Bool} (h : LJ R r left vis) (hk : k < dN R r) : LJ R r (fun z => left z && !z.sameKey (.int .i64 (k : Int))) (fun x => decide (x = k) || vis x) := by
  refine ⟨fun kl hl => ?_, fun k' hk' => ?_, fun k' hv => ?_⟩
  · simp only [Bool.and_eq_true, Bool.not_eq_true'] at hl
    obtain ⟨k', rfl, h1, h2⟩ := h.1 kl hl.1
    refine ⟨k', rfl, h1, ?_⟩
    have hne : k' ≠ k := by
      rintro rfl
      have hkl : Go.WideAt.IsKeyLit (.int .i64 (k' : Int)) := trivial
      rw [Go.WideAt.sameKey_self hkl] at hl
      cases hl.2
    simp [hne, h2]
  · by_cases he : k' = k
    · left; simp [he]
    · rcases h.2.1 k' hk' with h1 | h1
      · left; simp [h1]
      · right
        show (left _ && !Lit.sameKey _ _) = true
        rw [h1]
        cases hs : (Lit.int .i64 (k' : Int)).sameKey (.int .i64 (k : Int)) with
        | false => rfl
        | true => exact absurd (lit_nat.1 (Go.WideAt.sameKey_eq hs)) he
  · simp only [Bool.or_eq_true, decide_eq_true_eq] at hv
    rcases hv with rfl | hv
    · exact hk
    · exact h.2.2 k' hv
theorem LJ.done {R : Ro} {r : Nat} {left : Lit → Bool} {vis : Nat → Bool} (h : LJ R r left vis) (hl : ∀ kl, left kl = false) (k : Nat) : vis k = true ↔ k < dN R r := by
  refine ⟨h.2.2 k, fun hk => ?_⟩
  rcases h.2.1 k hk with h1 | h1
  · exact h1
  · rw [hl] at h1; cases h1
/-- The blocks that a walk over the map turns. -/
def chT (sB M' r0 : Nat) : Nat → Prop := fun b => b = sB ∨ b = M' ∨ b = r0
/-- Within the walk over the map, g keys being left. -/
def IJ (R : Ro) (a c r : Nat) (W4 : World) (sB M' j : Nat) (WR : World) (M r0 n C : Nat) (D : DataW Value) (g : Nat) (wx : World) : Prop :=
  ∃ vis left n', n' + g ≤ C ∧ wx.ranges Try.prog 3 rdV M r0 n D left g ∧ LJ R r left vis ∧ PJ R a c r W4 sB M' n' j vis wx ∧ Fx (chT sB M' r0) WR wx
theorem ranges_fx {w W : World} {M r0 n g : Nat} {D : DataW Value} {left : Lit → Bool} (h : w.ranges Try.prog 3 rdV M r0 n D left g) (h1 : W.heap[M]? = w.heap[M]?) (h2 : W.heap[r0]? = w.heap[r0]?) : W.ranges Try.prog 3 rdV M r0 n D left g := by
  obtain ⟨es, clock, since, seen, c0, k1, k2, k3, k4, k5, k6⟩ := h
  exact ⟨es, clock, since, seen, c0, h1.trans k1, k2, k3, k4, h2.trans k5, k6⟩
theorem ranges_noCells {w : World} {M r0 n g : Nat} {D : DataW Value} {left : Lit → Bool} (h : w.ranges Try.prog 3 rdV M r0 n D left g) : NoCells w r0 := by
  obtain ⟨es, clock, since, seen, c0, k1, k2, k3, k4, k5, k6⟩ := h
  intro cs t fz h'
  rw [k5] at h'; cases h'
theorem ranges_notSoft {w : World} {M r0 n g : Nat} {D : DataW Value} {left : Lit → Bool} (h : w.ranges Try.prog 3 rdV M r0 n D left g) : ¬ Soft w r0 := by
  obtain ⟨es, clock, since, seen, c0, k1, k2, k3, k4, k5, k6⟩ := h
  rintro (⟨L, h'⟩ | ⟨d, h'⟩) <;> rw [k5] at h' <;> cases h'
theorem invK_int {key : Value} {kl : Lit} (h : keyOf Try.prog 3 key = some kl) : ∃ x, key = .int .i64 x := by
  obtain ⟨x, rfl, _⟩ := Maps.keyOf_int_inv Try.underlying3 h
  exact ⟨x, rfl⟩
theorem key_of_lit {x : Int} {k : Nat} (h : keyOf Try.prog 3 (.int .i64 x) = some (.int .i64 (k : Int))) : x = (k : Int) := by
  obtain ⟨y, e1, e2, _⟩ := Maps.keyOf_int_inv Try.underlying3 h
  have e3 := (Value.int.inj e1).2
  have e4 := (Lit.int.inj e2).2
  omega
/-- The element that the walk has come to. -/
theorem elem_at {w : World} {R : Ro} {a c r k : Nat} {D : DataW Value} {cc : Value} {yy : DataW Value × List MemPlace} (h : MapD w D (goingF R a c r)) (hk : k < dN R r) (hrd : rdV (id cc) = some yy) (hat : ∀ zd, D.atKey (.int .i64 (k : Int)) zd = yy.1) :
    IsF w cc (FQ (gN R a c r k) ((a + c) ^ cum R r)) := by
  obtain ⟨_, uv, h2, h3⟩ := h.2 k _ (goingF_yes hk)
  unfold rdV at hrd
  have e1 : yy.1 = .held cc := by have := Option.some.inj hrd; rw [← this]; rfl
  have e2 := (hat (.held cc)).symm.trans (h2 (.held cc))
  rw [e1] at e2
  rw [DataW.held.inj e2]
  exact h3
end Go.Proofs.Ytebmegodeglobaa

namespace Go.Proofs.Ytebmegodeglobaa
open Go.RowKit Go.Shelf

set_option maxRecDepth 100000 in
set_option maxHeartbeats 1000000 in
theorem of32_c (w : World) (n d : Int) (h0 : -9223372036854775808 ≤ n) (h1 : n ≤ 9223372036854775807) (k0 : -9223372036854775808 ≤ d) (k1 : d ≤ 9223372036854775807) :
    Calls Try.prog 7 #[.int .i64 n, .int .i64 d] w (RetF1 w (ofF n d).1) := by
  obtain ⟨W0, hW⟩ : ∃ W0, W0 = w.alloc (.cells #[.bool false, .slice none 0 0, .slice none 0 0] 26) := ⟨_, rfl⟩
  have hb0 : Below w.heap.size w W0 := hW ▸ (Below.refl w.heap.size w).alloc (Nat.le_refl _) _
  have br : Box W0 w.heap.size #[.bool false, .slice none 0 0, .slice none 0 0] 26 := hW ▸ Box.new w _ _
  have HB0 := Lib.hid hb0
  have BR := Lib.hid br
  clear hb0 br
  go_enter Try.func7, Try.ntmps7
  go_upto_region 1 with fail
  rw [← hW]
  clear hW
  go_wp2_with fail
  refine (ROf_c _ n d h0 h1 k0 k1).mono ?_
  obtain ⟨o, ho⟩ : ∃ o, ofF n d = o := ⟨_, rfl⟩
  rw [ho]
  have HO := Lib.hid ho
  clear ho
  obtain ⟨⟨neg, A, B⟩, er⟩ := o
  rintro e w1 ⟨v, rfl, hv, hb1⟩
  obtain ⟨va, vb, rfl, h1, h2⟩ := hv
  simp only at h1 h2
  have bx1 := BR.out.after hb1
  obtain ⟨r0, r1, r2⟩ := bx1.cells3
  have f0 := bx1.frozen 0
  have f1 := bx1.frozen 1
  have f2 := bx1.frozen 2
  have hlt := bx1.lt
  have BX1 := Lib.hid bx1
  have HV1 := Lib.hid h1
  have HV2 := Lib.hid h2
  obtain ⟨p, cp, rfl, _, _⟩ := h1.shape
  obtain ⟨q, cq, rfl, _, _⟩ := h2.shape
  have HB1 := Lib.hid (HB0.out.trans (hb1.mono HB0.out.size))
  clear bx1 h1 h2 hb1
  go_wp2_with fail
  obtain ⟨e0, e1, e2⟩ := end_cells BX1.out (y0 := .bool neg) (y1 := .slice p A.length cp) (y2 := .slice q B.length cq) (.cells #[.bool neg, .slice p A.length cp, .slice q B.length cq] 26)
  refine bodyPost_ret (v := .agg #[.bool neg, .slice p A.length cp, .slice q B.length cq]) (by simp [results, Try.results7, go_sem, e0, e1, e2]) rfl ?_
  rw [HO.out]
  exact (retF1_end (x := ⟨neg, A, B⟩) HB1.out BX1.out (fun _ h => by cases h) (fun _ h => by cases h) (Nat.le_refl _) HV1.out HV2.out).alloc _

/-- The value v is the rollout R, which came in as an argument. -/
def IsRA (w : World) (v : Value) (R : Ro) : Prop := ∃ vh vw va vb vc vd, v = .agg #[vh, vw, .bool R.rate.neg, va, vb, .bool R.bound.neg, vc, vd] ∧ SlI w vh R.hosts ∧ SlI w vw R.waves ∧ SlA w va R.rate.num ∧ SlA w vb R.rate.den ∧ SlA w vc R.bound.num ∧ SlA w vd R.bound.den
theorem Sl.toA {w : World} {v : Value} {l : List Nat} (h : Sl w v l) : SlA w v l := by
  obtain ⟨h0, a, cap, h1, h2, h3, h5, h6⟩ := h
  exact ⟨h0, a, cap, h1, h2, h3, h5.1, h6⟩
theorem IsF.toA {w : World} {v : Value} {x : F} (h : IsF w v x) : IsFA w v x := by
  obtain ⟨va, vb, e, h1, h2⟩ := h
  exact ⟨va, vb, e, h1.toA, h2.toA⟩
theorem IsR.toA {w : World} {v : Value} {R : Ro} (h : IsR w v R) : IsRA w v R := by
  obtain ⟨vh, vw, va, vb, vc, vd, e, h1, h2, h3, h4, h5, h6⟩ := h
  exact ⟨vh, vw, va, vb, vc, vd, e, h1, h2, h3.toA, h4.toA, h5.toA, h6.toA⟩
theorem IsRA.after {w w' : World} {v : Value} {R : Ro} (h : IsRA w v R) (hb : Below w.heap.size w w') : IsRA w' v R := by
  obtain ⟨vh, vw, va, vb, vc, vd, e, h1, h2, h3, h4, h5, h6⟩ := h
  exact ⟨vh, vw, va, vb, vc, vd, e, h1.after hb, h2.after hb, h3.after hb, h4.after hb, h5.after hb, h6.after hb⟩
/-- A rollout of at most 18 hosts and waves, its fractions of at most 34 limbs. -/
def cutR (R : Ro) : Ro := ⟨R.hosts.take 18, R.waves.take 18, cut34 R.rate, cut34 R.bound⟩
/-- The result is a rollout. -/
def RetR (w : World) (R : Ro) (e : Ending) (w' : World) : Prop := ∃ v, e = .returned v ∧ IsR w' v R ∧ Below w.heap.size w w'
theorem SlI.cut {w : World} {p : Option Addr} {c : Nat} {l : List Int} (h : SlI w (.slice p l.length c) l) : SlI w (.slice p (min (l.length : Int) 18).toNat c) (l.take 18) := by
  obtain ⟨h0, a, cap, h1, h2, h3, h4, h5⟩ := h
  obtain ⟨rfl, rfl⟩ : p = a ∧ c = cap := by injection h1 with e1 _ e3; exact ⟨e1, e3⟩
  have hn : (min (l.length : Int) 18).toNat = ((l.take 18).map (Value.int .i64)).length := by rw [List.length_map, List.length_take]; omega
  rw [List.length_map] at h2 h5
  refine ⟨fun z hz => h0 z (List.mem_of_mem_take hz), p, c, by rw [hn], by rw [List.length_map, List.length_take]; omega, h3, h4, fun hl => ?_⟩
  rw [List.length_map, List.length_take] at hl
  obtain ⟨b, off, ha, hlt, hc⟩ := h5 (by omega)
  refine ⟨b, off, ha, hlt, fun i z hz => hc i z ?_⟩
  rw [List.getElem?_map, List.getElem?_take] at hz
  rw [List.getElem?_map]
  split at hz
  · exact hz
  · cases hz
/-- Eight cells, written one by one. -/
abbrev set8 (w : World) (b : Nat) (y0 y1 y2 y3 y4 y5 y6 y7 : Value) : World := (((((((w.setCell ⟨b, 0, none⟩ y0).setCell ⟨b, 1, none⟩ y1).setCell ⟨b, 2, none⟩ y2).setCell ⟨b, 3, none⟩ y3).setCell ⟨b, 4, none⟩ y4).setCell ⟨b, 5, none⟩ y5).setCell ⟨b, 6, none⟩ y6).setCell ⟨b, 7, none⟩ y7
theorem set8_box {w : World} {b : Nat} {x0 x1 x2 x3 x4 x5 x6 x7 : Value} {t : TypeId} (h : Box w b #[x0, x1, x2, x3, x4, x5, x6, x7] t) (y0 y1 y2 y3 y4 y5 y6 y7 : Value) : Box (set8 w b y0 y1 y2 y3 y4 y5 y6 y7) b #[y0, y1, y2, y3, y4, y5, y6, y7] t := by
  unfold set8
  have := (((((((h.set 0 y0).set 1 y1).set 2 y2).set 3 y3).set 4 y4).set 5 y5).set 6 y6).set 7 y7
  simpa using this
theorem set8_grown (w : World) (b : Nat) (y0 y1 y2 y3 y4 y5 y6 y7 : Value) : w.grownBy (set8 w b y0 y1 y2 y3 y4 y5 y6 y7) (some b) :=
  grown_tr (grown_tr (grown_tr (grown_tr (grown_tr (grown_tr (grown_tr (grown_set w b 0 y0) (grown_set _ b 1 y1)) (grown_set _ b 2 y2)) (grown_set _ b 3 y3)) (grown_set _ b 4 y4)) (grown_set _ b 5 y5)) (grown_set _ b 6 y6)) (grown_set _ b 7 y7)
theorem keep8z {W : World} {b X : Nat} {y0 y1 y2 y3 y4 y5 y6 y7 a0 a1 a2 a3 a4 a5 a6 a7 : Value} (h : X ≠ b) (hs : W.cell? ⟨X, 0, none⟩ = some a0 ∧ W.cell? ⟨X, 1, none⟩ = some a1 ∧ W.cell? ⟨X, 2, none⟩ = some a2 ∧ W.cell? ⟨X, 3, none⟩ = some a3 ∧ W.cell? ⟨X, 4, none⟩ = some a4 ∧ W.cell? ⟨X, 5, none⟩ = some a5 ∧ W.cell? ⟨X, 6, none⟩ = some a6 ∧ W.cell? ⟨X, 7, none⟩ = some a7) :
    (set8 W b y0 y1 y2 y3 y4 y5 y6 y7).cell? ⟨X, 0, none⟩ = some a0 ∧ (set8 W b y0 y1 y2 y3 y4 y5 y6 y7).cell? ⟨X, 1, none⟩ = some a1 ∧ (set8 W b y0 y1 y2 y3 y4 y5 y6 y7).cell? ⟨X, 2, none⟩ = some a2 ∧ (set8 W b y0 y1 y2 y3 y4 y5 y6 y7).cell? ⟨X, 3, none⟩ = some a3 ∧ (set8 W b y0 y1 y2 y3 y4 y5 y6 y7).cell? ⟨X, 4, none⟩ = some a4 ∧ (set8 W b y0 y1 y2 y3 y4 y5 y6 y7).cell? ⟨X, 5, none⟩ = some a5 ∧ (set8 W b y0 y1 y2 y3 y4 y5 y6 y7).cell? ⟨X, 6, none⟩ = some a6 ∧ (set8 W b y0 y1 y2 y3 y4 y5 y6 y7).cell? ⟨X, 7, none⟩ = some a7 := by
  have hg := set8_grown W b y0 y1 y2 y3 y4 y5 y6 y7
  have hne : some X ≠ some b := by intro e; injection e with e; exact h e
  obtain ⟨h0, h1, h2, h3, h4, h5, h6, h7⟩ := hs
  exact ⟨hg.cell h0 hne, hg.cell h1 hne, hg.cell h2 hne, hg.cell h3 hne, hg.cell h4 hne, hg.cell h5 hne, hg.cell h6 hne, hg.cell h7 hne⟩
/-- The empty variable of a rollout bears neither limbs nor ints. -/
theorem dull_ro {w : World} {b : Nat} (h : Box w b #[.slice none 0 0, .slice none 0 0, .bool false, .slice none 0 0, .slice none 0 0, .bool false, .slice none 0 0, .slice none 0 0] 28) : Dull (fun g => g = b) w := by
  refine ⟨?_, ?_⟩
  · rintro g rfl
    exact h.noTag (by decide) _ rfl
  · rintro g o z rfl hc
    rw [h.cell] at hc
    rcases o with _ | _ | _ | _ | _ | _ | _ | _ | o <;> simp at hc

end Go.Proofs.Ytebmegodeglobaa
