/- Walks of the statements' own functions on rollouts: same, sample; slices.Equal of ints.
   Walks of the library: slices.EqualFunc of decisions, by the statements' own same.
   Walks of package canary: Chance at a valid rollout and rate. -/
import Derived.Test.YtebmegodeglobaaK23
import Derived.Test.YtebmegodeglobaaK21
import Derived.Test.YtebmegodeglobaaK03
set_option linter.unusedVariables false
namespace Go.Proofs.Ytebmegodeglobaa
open Go.RowKit Go.Shelf

theorem take_beq {n m : Nat} {a b : List Int} (hn : n = a.length) (hm : m = b.length) : ((a.take n == b.take m) = true) ↔ a = b := by
  subst hn; subst hm
  rw [List.take_length, List.take_length, beq_iff_eq]
theorem equal_i (w : World) (va vb : Value) (a b : List Int) (h : SlI w va a) (k : SlI w vb b) : Calls Try.prog 12 #[va, vb] w (RetB w (a = b)) := by
  obtain ⟨p, c, rfl, h1, h2, _⟩ := h.shape
  obtain ⟨q, d, rfl, k1, k2, _⟩ := k.shape
  by_cases hl : a.length = b.length
  · by_cases h0 : a.length = 0
    · have ha : a = [] := List.length_eq_zero_iff.1 h0
      have hb : b = [] := List.length_eq_zero_iff.1 (by omega)
      subst ha; subst hb
      refine (Try.slices_Equal_int_empty p q c ([] : List Int).length d w (by simp)).mono ?_
      rintro e w' ⟨rfl, rfl⟩
      exact ⟨true, rfl, by simp, 0, rfl⟩
    · obtain ⟨ba, oa, rfl, _, hc1⟩ := h.cells (by omega)
      obtain ⟨bb, ob, rfl, _, hc2⟩ := k.cells (by omega)
      refine (Try.slices_Equal_int ba oa a.length c bb ob b.length d a b w (Nat.le_refl _) (Nat.le_refl _) (by omega) (by omega) hc1 hc2).mono ?_
      rintro e w' ⟨rfl, n, rfl⟩
      exact ⟨_, rfl, take_beq rfl rfl, n, rfl⟩
  · refine (Try.slices_Equal_int_lens p q a.length c b.length d w hl).mono ?_
    rintro e w' ⟨rfl, rfl⟩
    exact ⟨false, rfl, by constructor; (intro h; cases h); (intro h; exact absurd (by rw [h]) hl), 0, rfl⟩

/-- The value v is the decision d. -/
def IsD (w : World) (v : Value) (d : Dec) : Prop := ∃ u, v = .agg #[.int .u8 (d.kind : Int), u] ∧ SlI w u d.hosts
theorem IsD.after {w w' : World} {v : Value} {d : Dec} (h : IsD w v d) (hb : Below w.heap.size w w') : IsD w' v d := by
  obtain ⟨u, e, h1⟩ := h
  exact ⟨u, e, h1.after hb⟩
theorem Dec.ext' {a b : Dec} (h1 : a.kind = b.kind) (h2 : a.hosts = b.hosts) : a = b := by cases a; cases b; simp_all
theorem Box.cells2' {w : World} {b : Nat} {x0 x1 : Value} {t : TypeId} (h : Box w b #[x0, x1] t) : w.cell? ⟨b, 0, none⟩ = some x0 ∧ w.cell? ⟨b, 1, none⟩ = some x1 := ⟨h.cell 0, h.cell 1⟩

set_option maxRecDepth 100000 in
set_option maxHeartbeats 4000000 in
theorem same32_c (w : World) (v u : Value) (a b : Dec) (h : IsD w v a) (k : IsD w u b) : Calls Try.prog 6 #[v, u] w (RetC w (a = b)) := by
  obtain ⟨va, rfl, h1⟩ := h
  obtain ⟨vb, rfl, h2⟩ := k
  obtain ⟨p, c, rfl, _, _, _⟩ := h1.shape
  obtain ⟨q, d, rfl, _, _, _⟩ := h2.shape
  obtain ⟨W0, hW, bx, br, hsz, hb0⟩ := start2 w #[.int .u8 (a.kind : Int), .slice p a.hosts.length c] #[.int .u8 (b.kind : Int), .slice q b.hosts.length d] 36
  obtain ⟨x0, x1⟩ := bx.cells2'
  obtain ⟨y0, y1⟩ := br.cells2'
  have H1 := Lib.hid (h1.after hb0)
  have H2 := Lib.hid (h2.after hb0)
  have HB0 := Lib.hid hb0
  clear bx br h1 h2 hb0
  by_cases hk : a.kind = b.kind
  · have HK := Lib.hid hk
    have hne : ((a.kind : Int) == (b.kind : Int)) = true := by rw [beq_iff_eq]; omega
    clear hk
    go_enter Try.func6, Try.ntmps6
    go_upto_region 1 with fail
    rw [← hW]
    clear hW
    go_wp2_with fail
    refine (equal_i _ _ _ _ _ H1.out H2.out).mono ?_
    rintro e w1 ⟨r, rfl, hr, hw⟩
    have hb1 := below_dn hw
    have HR := Lib.hid hr
    have HB1 := Lib.hid (HB0.out.trans (hb1.mono HB0.out.size))
    clear hr hw hb1 x0 x1 y0 y1
    go_wp2_with fail
    go_ret
    exact ⟨r, rfl, ⟨fun h => Dec.ext' HK.out (HR.out.1 h), fun h => HR.out.2 (by rw [h])⟩, HB1.out⟩
  · have HK := Lib.hid hk
    have hne : ((a.kind : Int) == (b.kind : Int)) = false := by rw [beq_eq_false_iff_ne]; omega
    clear hk
    go_enter Try.func6, Try.ntmps6
    go_upto_region 1 with fail
    rw [← hW]
    clear hW
    go_wp2_with fail
    go_ret
    exact ⟨false, rfl, iff_of_false (fun h => nomatch h) (fun h => HK.out (by rw [h])), HB0.out⟩

theorem SlI.lit {w : World} {b : Nat} {l : List Int} {cs : Array Value} {t : TypeId} (h : Box w b cs t) (hcs : cs = (l.map (Value.int .i64)).toArray) (hl : ∀ z ∈ l, In64 z) (hm : l.length ≤ 1000000) : SlI w (.slice (some ⟨b, 0, none⟩) l.length l.length) l := by
  subst hcs
  refine ⟨hl, some ⟨b, 0, none⟩, l.length, by rw [List.length_map], by rw [List.length_map]; exact Nat.le_refl _, by omega, (fun e => by cases e), fun _ => ⟨b, 0, rfl, h.lt, fun i c hi => ?_⟩⟩
  rw [Nat.zero_add, h.cell i, ← hi, List.getElem?_toArray]
theorem SlB.lit {w : World} {b : Nat} {l : List Bool} {cs : Array Value} {t : TypeId} (h : Box w b cs t) (hcs : cs = (l.map Value.bool).toArray) (hm : l.length ≤ 1000000) : SlB w (.slice (some ⟨b, 0, none⟩) l.length l.length) l := by
  subst hcs
  refine ⟨some ⟨b, 0, none⟩, l.length, by rw [List.length_map], by rw [List.length_map]; exact Nat.le_refl _, by omega, (fun e => by cases e), fun _ => ⟨b, 0, rfl, h.lt, fun i c hi => ?_⟩⟩
  rw [Nat.zero_add, h.cell i, ← hi, List.getElem?_toArray]

theorem w_14 : (ofF 1 4).1 = fr false 1 4 := congrArg Prod.fst (ofF_ok (a := 1) (b := 4) rfl rfl ok14)
theorem w_120 : (ofF 1 20).1 = fr false 1 20 := congrArg Prod.fst (ofF_ok (a := 1) (b := 20) rfl rfl ok120)
theorem w_12' : (ofF 1 2).1 = fr false 1 2 := congrArg Prod.fst (ofF_ok (a := 1) (b := 2) rfl rfl ok12')
theorem w_732 : (ofF 7 32).1 = fr false 7 32 := congrArg Prod.fst (ofF_ok (a := 7) (b := 32) rfl rfl ok732)

set_option maxRecDepth 100000 in
set_option maxHeartbeats 4000000 in
theorem sample_c (w : World) : Calls Try.prog 4 #[] w (RetR w R0) := by
  obtain ⟨W0, hW, br, hsz, hb0⟩ := start1 w #[.slice none 0 0, .slice none 0 0, .bool false, .slice none 0 0, .slice none 0 0, .bool false, .slice none 0 0, .slice none 0 0] 28
  have HB0 := Lib.hid hb0
  have BR := Lib.hid br
  clear br hb0
  go_enter Try.func4, Try.ntmps4
  go_upto_region 1 with fail
  rw [← hW]
  clear hW
  go_wp2_with fail
  obtain ⟨W1, hW1⟩ : ∃ W1, W1 = (W0.alloc (.cells #[.int .i64 4, .int .i64 2, .int .i64 7, .int .i64 1, .int .i64 0] 3)).alloc (.cells #[.int .i64 1, .int .i64 2, .int .i64 2] 3) := ⟨_, rfl⟩
  have b1 : Box W1 W0.heap.size #[.int .i64 4, .int .i64 2, .int .i64 7, .int .i64 1, .int .i64 0] 3 := hW1 ▸ (Box.new W0 _ _).alloc _
  have b2 : Box W1 (W0.heap.size + 1) #[.int .i64 1, .int .i64 2, .int .i64 2] 3 := by
    have := Box.new (W0.alloc (.cells #[.int .i64 4, .int .i64 2, .int .i64 7, .int .i64 1, .int .i64 0] 3)) #[.int .i64 1, .int .i64 2, .int .i64 2] 3
    rw [hW1]
    simpa using this
  have hb1 : Below W0.heap.size W0 W1 := hW1 ▸ held_alloc (held_alloc (Below.refl _ W0))
  have HS1 : Hid (SlI W1 (.slice (some ⟨W0.heap.size, 0, none⟩) 5 5) [4, 2, 7, 1, 0]) := SlI.lit (l := [4, 2, 7, 1, 0]) b1 rfl (by unfold In64; decide) (by decide)
  have HS2 : Hid (SlI W1 (.slice (some ⟨W0.heap.size + 1, 0, none⟩) 3 3) [1, 2, 2]) := SlI.lit (l := [1, 2, 2]) b2 rfl (by unfold In64; decide) (by decide)
  have HB1 := Lib.hid (HB0.out.trans (hb1.mono HB0.out.size))
  have BR1 := Lib.hid (BR.out.after hb1)
  rw [← hW1]
  clear hW1 b1 b2 hb1 HB0 BR
  refine (of32_c _ 1 4 (by omega) (by omega) (by omega) (by omega)).mono ?_
  rw [w_14]
  rintro e w2 ⟨v2, rfl, hv2, hb2⟩
  have H2 := Lib.hid hv2
  have hb2' := Lib.hid hb2
  clear hv2 hb2
  go_wp2_with fail
  refine (of32_c _ 1 20 (by omega) (by omega) (by omega) (by omega)).mono ?_
  rw [w_120]
  rintro e w3 ⟨v3, rfl, hv3, hb3⟩
  obtain ⟨x0, hx0⟩ : ∃ x, fr false 1 4 = x := ⟨_, rfl⟩
  obtain ⟨y0, hy0⟩ : ∃ x, fr false 1 20 = x := ⟨_, rfl⟩
  rw [hy0] at hv3
  rw [hx0] at H2
  have hR : Hid (R0 = ⟨[4, 2, 7, 1, 0], [1, 2, 2], x0, y0⟩) := by show _ = _; rw [← hx0, ← hy0]; rfl
  obtain ⟨va2, vb2, rfl, i1, i2⟩ := H2.out
  obtain ⟨va3, vb3, rfl, i3, i4⟩ := hv3
  obtain ⟨a1, e1, rfl, _, _⟩ := i1.shape
  obtain ⟨a2, e2, rfl, _, _⟩ := i2.shape
  obtain ⟨a3, e3, rfl, _, _⟩ := i3.shape
  obtain ⟨a4, e4, rfl, _, _⟩ := i4.shape
  have hb13 := hb2'.out.trans (hb3.mono hb2'.out.size)
  have hbr := BR1.out.after hb13
  obtain ⟨r0, r1, r2, r3, r4, r5, r6, r7⟩ := hbr.cells8
  have f0 := hbr.frozen 0
  have f1 := hbr.frozen 1
  have f2 := hbr.frozen 2
  have f3 := hbr.frozen 3
  have f4 := hbr.frozen 4
  have f5 := hbr.frozen 5
  have f6 := hbr.frozen 6
  have f7 := hbr.frozen 7
  have BR3 := Lib.hid hbr
  have HB3 := Lib.hid (HB1.out.trans (hb13.mono HB1.out.size))
  have S1 := Lib.hid (HS1.out.after hb13)
  have S2 := Lib.hid (HS2.out.after hb13)
  have I1 := Lib.hid (i1.after hb3)
  have I2 := Lib.hid (i2.after hb3)
  have I3 := Lib.hid i3
  have I4 := Lib.hid i4
  clear hbr hb13 i1 i2 i3 i4 hb3 hb2' H2 hx0 hy0 HS1 HS2 BR1
  go_wp2_with fail
  obtain ⟨g0, g1, g2, g3, g4, g5, g6, g7⟩ := (set8_box BR3.out (.slice (some ⟨W0.heap.size, 0, none⟩) 5 5) (.slice (some ⟨W0.heap.size + 1, 0, none⟩) 3 3) (.bool x0.neg) (.slice a1 x0.num.length e1) (.slice a2 x0.den.length e2) (.bool y0.neg) (.slice a3 y0.num.length e3) (.slice a4 y0.den.length e4)).cells8
  refine bodyPost_ret (v := .agg #[.slice (some ⟨W0.heap.size, 0, none⟩) 5 5, .slice (some ⟨W0.heap.size + 1, 0, none⟩) 3 3, .bool x0.neg, .slice a1 x0.num.length e1, .slice a2 x0.den.length e2, .bool y0.neg, .slice a3 y0.num.length e3, .slice a4 y0.den.length e4]) (by simp [results, Try.results4, go_sem, g0, g1, g2, g3, g4, g5, g6, g7]) rfl ?_
  have hg := set8_grown w3 w.heap.size (.slice (some ⟨W0.heap.size, 0, none⟩) 5 5) (.slice (some ⟨W0.heap.size + 1, 0, none⟩) 3 3) (.bool x0.neg) (.slice a1 x0.num.length e1) (.slice a2 x0.den.length e2) (.bool y0.neg) (.slice a3 y0.num.length e3) (.slice a4 y0.den.length e4)
  have hf := (Fx.refl (fun g => g = w.heap.size) w3).of hg rfl
  have hd := dull_ro BR3.out
  rw [hR.out]
  exact ⟨_, rfl, ⟨_, _, _, _, _, _, rfl, S1.out.fx hf hd, S2.out.fx hf hd, I1.out.fx hf hd.1, I2.out.fx hf hd.1, I3.out.fx hf hd.1, I4.out.fx hf hd.1⟩, HB3.out.trans (hf.toBelow HB3.out.size (fun g e => by rw [e]; exact Nat.le_refl _))⟩
end Go.Proofs.Ytebmegodeglobaa

namespace Go.Proofs.Ytebmegodeglobaa
open Go.RowKit Go.Shelf

theorem take_eq_succ {a b : List Dec} {i : Nat} {x y : Dec} (h : a.take i = b.take i) (hx : a[i]? = some x) (hy : b[i]? = some y) (he : x = y) : a.take (i + 1) = b.take (i + 1) := by
  rw [List.take_add_one, List.take_add_one, h, hx, hy, he]

end Go.Proofs.Ytebmegodeglobaa

namespace Go.Proofs.Ytebmegodeglobaa
open Go.RowKit
attribute [local go_sem] Oper.semAt_some wide_fn

theorem fq_zero : ofF 0 1 = (FQ 0 1, 0) := by
  have h := ofF_ok (a := 0) (b := 1) rfl rfl (small_ok (by omega) (by omega) (by omega) (by decide))
  rw [show FQ 0 1 = fr false 0 1 from rep_zero.fst]
  exact h
theorem fq_one : ofF 1 1 = (FQ 1 1, 0) := by
  have h := ofF_ok (a := 1) (b := 1) rfl rfl (small_ok (by omega) (by omega) (by omega) (by decide))
  rw [show FQ 1 1 = fr false 1 1 from rep_one.fst]
  exact h
/-- A new variable of a fraction. -/
theorem VarF.make {w : World} {x : F} {va vb : Value} (h1 : Sl w va x.num) (h2 : Sl w vb x.den) : VarF (w.alloc (.cells #[.bool x.neg, va, vb] 26)) w.heap.size x :=
  ⟨va, vb, Box.new w _ _, h1.alloc _, h2.alloc _⟩

set_option maxRecDepth 100000 in
set_option maxHeartbeats 16000000 in
theorem cChance_good (w : World) (v u : Value) (R : Ro) (x : F) (h : IsR w v R) (hp : IsF w u x) (hv : ValidR R) (hr : rateE x = 0) : Calls Try.prog 10 #[v, u] w (RetF w (chanceF R x)) := by
  obtain ⟨a, b, hxe, hab, hb0, hb1, hva, hvb⟩ := rate_fr hr
  have hok : Ok false a b := validF_fr.1 (hxe ▸ (fracE_zero (rateE_zero_frac hr)).1)
  have hspec : Hid (chanceF R x = (FQ (gS R a (b - a) R.waves.length) ((a + (b - a)) ^ cum R R.waves.length), 0)) := by
    show _ = _
    unfold chanceF
    rw [if_neg (by rw [hr]; rintro (h | h); exact h hv; omega), if_pos hr, hva, hvb, show a + (b - a) = b by omega]
  obtain ⟨c, hc⟩ : ∃ c, b - a = c := ⟨_, rfl⟩
  have hac : a + c = b := by omega
  have hac1 : a + c ≤ 1000 := by omega
  have hpos : 0 < a + c := by omega
  have hexj : Hid (∀ m k : Nat, m ≤ 16 → k ≤ m → exactlyF (m : Int) (k : Int) x = (FQ (ex a c m k) ((a + c) ^ m), 0)) := by
    intro m k hm hk
    have h1 := (exactlyF_q (k := k) hok hab hb1 (show m ≤ 64 by omega) hk).1
    rw [hxe, h1, hac]
    unfold Eq_ FQ
    rw [made_nat, hc]
  have hex : Hid (exactlyF 0 0 x = (FQ (ex a c 0 0) ((a + c) ^ 0), 0)) := hexj.out 0 0 (by omega) (by omega)
  rw [hc] at hspec
  obtain ⟨o0, ho0⟩ : ∃ o, FQ (ex a c 0 0) ((a + c) ^ 0) = o := ⟨_, rfl⟩
  rw [ho0] at hex
  clear ho0 hc hva hvb
  have HX := h
  obtain ⟨p0, p1, p2, p3, p4, p5, k0, k1, k2, k3, k4, k5, rfl, _, _, _, _⟩ := h.open
  obtain ⟨va, vb, rfl, h1, h2⟩ := hp
  obtain ⟨p, cp, rfl, _, _⟩ := h1.shape
  obtain ⟨q, cq, rfl, _, _⟩ := h2.shape
  obtain ⟨W0, hW, bR, bP, bO, hb0, hsz⟩ := start_ch w #[.slice p0 R.hosts.length k0, .slice p1 R.waves.length k1, .bool R.rate.neg, .slice p2 R.rate.num.length k2, .slice p3 R.rate.den.length k3, .bool R.bound.neg, .slice p4 R.bound.num.length k4, .slice p5 R.bound.den.length k5] #[.bool x.neg, .slice p x.num.length cp, .slice q x.den.length cq] #[.bool false, .slice none 0 0, .slice none 0 0] 28 26 26
  obtain ⟨x0, x1, x2⟩ := bP.cells3
  have hl : w.heap.size + 2 < W0.heap.size := by omega
  have HP := Lib.hid (HX.after hb0)
  have HF := Lib.hid (show IsF W0 (.agg #[.bool x.neg, .slice p x.num.length cp, .slice q x.den.length cq]) x from ⟨_, _, rfl, h1.after hb0, h2.after hb0⟩)
  have VP := Lib.hid (show VarF W0 (w.heap.size + 1) x from ⟨_, _, bP, h1.after hb0, h2.after hb0⟩)
  have HB0 := Lib.hid hb0
  have BR := Lib.hid bR
  have BO := Lib.hid bO
  have HV := Lib.hid hv
  have HAC := Lib.hid hac1
  have HPOS := Lib.hid hpos
  clear HX h h1 h2 bR bO bP hb0 hsz hv hr hxe hok hab hb1 hac hac1 hpos
  refine callsIn_wide (n := 6).1 (callsIn_of_wp_marks Try.func10 rfl trivial (wpIn_wide.2 ?_) rfl)
  simp only [Try.ntmps10, List.size_toArray, List.length_cons, List.length_nil, Nat.reduceAdd, Nat.reduceSub, Array.replicate_succ, Array.replicate_zero, List.push_toArray, List.append_toArray, List.nil_append, List.cons_append]
  go_upto_region 1 with fail
  rw [← hW]
  clear hW
  go_wp2_with fail
  refine (tExactly_c _ _ _ _ x HF.out).mono ?_
  rw [hex.out]
  rintro e w1 ⟨v1, rfl, hv1, hb1⟩
  simp only [] at hv1
  obtain ⟨vc, vd, rfl, h1, h2⟩ := hv1
  obtain ⟨pp, cpp, rfl, _, _⟩ := h1.shape
  obtain ⟨qq, cqq, rfl, _, _⟩ := h2.shape
  go_upto_region 2 with fail
  obtain ⟨W2, hW2⟩ : ∃ W2, W2 = w1.alloc (.cells #[.bool o0.neg, .slice pp o0.num.length cpp, .slice qq o0.den.length cqq] 26) := ⟨_, rfl⟩
  have hb2 : Below w1.heap.size w1 W2 := hW2 ▸ held_alloc (Below.refl _ w1)
  have hb12 := hb1.trans (hb2.mono hb1.size)
  obtain ⟨c0, c1, c2, c3, c4, c5, c6, c7⟩ := (BR.out.after hb12).cells8
  have HP2 := Lib.hid (HP.out.after hb12)
  have VP2 := Lib.hid (VP.out.after hb12)
  have BR2 := Lib.hid (BR.out.after hb12)
  have BO2 := Lib.hid (BO.out.after hb12)
  have HB2 := Lib.hid (HB0.out.trans (hb12.mono HB0.out.size))
  have hl2 : w.heap.size + 2 < W2.heap.size := Nat.lt_of_lt_of_le hl hb12.size
  rw [← hW2]
  clear hW2 hb2 hb12 hb1 h1 h2 x0 x1 x2 HP HF HB0 BR BO VP hl
  go_wp2_with fail
  refine (cValid_c _ _ R HP2.out).mono ?_
  intro e w3 hr
  obtain ⟨rfl, hb3⟩ := hr.yes HV.out
  have HP3 := Lib.hid (HP2.out.after hb3)
  have VP3 := Lib.hid (VP2.out.after hb3)
  have BR3 := Lib.hid (BR2.out.after hb3)
  have BO3 := Lib.hid (BO2.out.after hb3)
  have HB3 := Lib.hid (HB2.out.trans (hb3.mono HB2.out.size))
  have hl3 : w.heap.size + 2 < w3.heap.size := Nat.lt_of_lt_of_le hl2 hb3.size
  clear hb3 hr hl2 c0 c1 c2 c3 c4 c5 c6 c7 HP2 VP2 BR2 BO2 HB2
  go_upto_region 6 with fail
  go_wp2_with fail
  refine (Of_c _ 0 1 (by omega) (by omega) (by omega) (by omega)).mono ?_
  rw [fq_zero]
  obtain ⟨z0, hz0⟩ : ∃ z, FQ 0 1 = z := ⟨_, rfl⟩
  rw [hz0]
  rintro e w4 ⟨v4, rfl, hv4, hb4⟩
  simp only [] at hv4
  obtain ⟨ve, vf, rfl, g1, g2⟩ := hv4
  obtain ⟨pe, cpe, rfl, _, _⟩ := g1.shape
  obtain ⟨qe, cqe, rfl, _, _⟩ := g2.shape
  go_upto_region 7 with fail
  obtain ⟨W5, hW5⟩ : ∃ W5, W5 = w4.alloc (.cells #[.bool z0.neg, .slice pe z0.num.length cpe, .slice qe z0.den.length cqe] 26) := ⟨_, rfl⟩
  have vs : VarF W5 w4.heap.size z0 := hW5 ▸ VarF.make g1 g2
  have hb5 : Below w4.heap.size w4 W5 := hW5 ▸ held_alloc (Below.refl _ w4)
  have hb45 := hb4.trans (hb5.mono hb4.size)
  have VS := Lib.hid vs
  have HP5 := Lib.hid (HP3.out.after hb45)
  have VP5 := Lib.hid (VP3.out.after hb45)
  have BR5 := Lib.hid (BR3.out.after hb45)
  have BO5 := Lib.hid (BO3.out.after hb45)
  have HB5 := Lib.hid (HB3.out.trans (hb45.mono HB3.out.size))
  have hl4 : w.heap.size + 2 < w4.heap.size := Nat.lt_of_lt_of_le hl3 hb4.size
  have hl5 : w4.heap.size < W5.heap.size := vs.lt
  rw [← hW5]
  clear hW5 hb5 hb45 hb4 g1 g2 vs HP3 VP3 BR3 BO3 HB3 hl3
  go_wp2_with fail
  refine (Of_c _ 1 1 (by omega) (by omega) (by omega) (by omega)).mono ?_
  rw [fq_one]
  obtain ⟨y0, hy0⟩ : ∃ z, FQ 1 1 = z := ⟨_, rfl⟩
  rw [hy0]
  rintro e w6 ⟨v6, rfl, hv6, hb6⟩
  simp only [] at hv6
  obtain ⟨vg, vh, rfl, g1, g2⟩ := hv6
  obtain ⟨pg, cpg, rfl, _, _⟩ := g1.shape
  obtain ⟨qg, cqg, rfl, _, _⟩ := g2.shape
  go_upto_region 8 with fail
  obtain ⟨W7, hW7⟩ : ∃ W7, W7 = w6.alloc (.cells #[.bool y0.neg, .slice pg y0.num.length cpg, .slice qg y0.den.length cqg] 26) := ⟨_, rfl⟩
  have hb7 : Below w6.heap.size w6 W7 := hW7 ▸ held_alloc (Below.refl _ w6)
  have vo : VarF W7 w6.heap.size y0 := hW7 ▸ VarF.make g1 g2
  have b10 : Box W7 w6.heap.size #[.bool y0.neg, .slice pg y0.num.length cpg, .slice qg y0.den.length cqg] 26 := hW7 ▸ Box.new w6 _ _
  have hb67 := hb6.trans (hb7.mono hb6.size)
  obtain ⟨y0c, y1c, y2c⟩ := b10.cells3
  have HY := Lib.hid (show IsF W7 (.agg #[.bool y0.neg, .slice pg y0.num.length cpg, .slice qg y0.den.length cqg]) y0 from ⟨_, _, rfl, g1.after hb7, g2.after hb7⟩)
  have VS7 := Lib.hid (VS.out.after hb67)
  have HP7 := Lib.hid (HP5.out.after hb67)
  have VP7 := Lib.hid (VP5.out.after hb67)
  have BR7 := Lib.hid (BR5.out.after hb67)
  have BO7 := Lib.hid (BO5.out.after hb67)
  have HB7 := Lib.hid (HB5.out.trans (hb67.mono HB5.out.size))
  have hl7 : w4.heap.size < W7.heap.size := Nat.lt_of_lt_of_le hl5 hb67.size
  have hl10 := b10.lt
  rw [← hW7]
  clear hW7 hb7 hb67 hb6 g1 g2 b10 vo HP5 VP5 BR5 BO5 HB5 VS hl5
  have HM7 := Lib.hid (World.ownsMap_made W7 Try.prog 3 rdV)
  have hya : Below W7.heap.size W7 (W7.alloc (.map #[] 0)) := held_alloc (Below.refl _ W7)
  have z0c := keep_cell hya y0c
  have z1c := keep_cell hya y1c
  have z2c := keep_cell hya y2c
  have HYA := Lib.hid hya
  clear hya
  have hmm := run_makeMap (P := Try.prog) 62 W7
  obtain ⟨w8, hrun8, hown8, hgr8⟩ := HM7.out.update mapLawI Try.underlying62 (show 0 < maxLen by decide) (key_nat (k := 0) (by omega)) (show rdV (.agg #[.bool y0.neg, .slice pg y0.num.length cpg, .slice qg y0.den.length cqg]) = some (.held (.agg #[.bool y0.neg, .slice pg y0.num.length cpg, .slice qg y0.den.length cqg]), []) from rfl)
  have hrun8 : (Instr.mapUpdate 62 (.map (some W7.heap.size)) (.int .i64 0) (.agg #[.bool y0.neg, .slice pg y0.num.length cpg, .slice qg y0.den.length cqg])).run Try.prog (W7.alloc (.map #[] 0)) = .ok () w8 := hrun8
  have hb8 : Below W7.heap.size W7 w8 := HYA.out.grown hgr8 HYA.out.size (fun g e => by injection e with e; omega)
  have HG8 := Lib.hid (MapF.put (k := 0) HM7.out (MapD.empty _) (HY.out.after HYA.out) hown8 hgr8)
  have VS8 := Lib.hid (VS7.out.after hb8)
  have HP8 := Lib.hid (HP7.out.after hb8)
  have VP8 := Lib.hid (VP7.out.after hb8)
  have BR8 := Lib.hid (BR7.out.after hb8)
  have BO8 := Lib.hid (BO7.out.after hb8)
  have HB8 := Lib.hid (HB7.out.trans (hb8.mono HB7.out.size))
  have hl8 : w4.heap.size < w8.heap.size := Nat.lt_of_lt_of_le hl7 hb8.size
  have HGR8 := Lib.hid hgr8
  clear hown8 hgr8 hb8 HM7 HYA HY HP7 VP7 BR7 BO7 HB7 VS7 hl10
  go_upto_region 9 with fail
  clear y0c y1c y2c z0c z1c z2c hrun8 hmm HGR8
  obtain ⟨W9, hW9⟩ : ∃ W9, W9 = w8.alloc (.cells #[.map (some W7.heap.size)] 62) := ⟨_, rfl⟩
  have hb9 : Below w8.heap.size w8 W9 := hW9 ▸ held_alloc (Below.refl _ w8)
  have bG : Box W9 w8.heap.size #[.map (some W7.heap.size)] 62 := hW9 ▸ Box.new w8 _ _
  have BG := Lib.hid bG
  have hl9 := bG.lt
  obtain ⟨c0, c1, c2, c3, c4, c5, c6, c7⟩ := (BR8.out.after hb9).cells8
  have HG9 := Lib.hid (HG8.out.after hb9)
  have VS9 := Lib.hid (VS8.out.after hb9)
  have HP9 := Lib.hid (HP8.out.after hb9)
  have VP9 := Lib.hid (VP8.out.after hb9)
  have BO9 := Lib.hid (BO8.out.after hb9)
  have HB9 := Lib.hid (HB8.out.trans (hb9.mono HB8.out.size))
  rw [← hW9]
  clear hW9 hb9 bG HG8 VS8 HP8 VP8 BR8 BO8 HB8
  go_wp2_with fail
  refine (bounds_t _ p0 p1 p2 p3 p4 p5 R.hosts.length R.waves.length R.rate.num.length R.rate.den.length R.bound.num.length R.bound.den.length k0 k1 k2 k3 k4 k5 R.rate.neg R.bound.neg).mono ?_
  rintro e w' ⟨rfl, rfl⟩
  obtain ⟨W1, hW1⟩ : ∃ W1, W1 = W9.alloc (.cells #[.slice p0 R.hosts.length k0, .slice p1 R.waves.length k1, .bool R.rate.neg, .slice p2 R.rate.num.length k2, .slice p3 R.rate.den.length k3, .bool R.bound.neg, .slice p4 R.bound.num.length k4, .slice p5 R.bound.den.length k5] 28) := ⟨_, rfl⟩
  have hb10 : Below W9.heap.size W9 W1 := hW1 ▸ held_alloc (Below.refl _ W9)
  have bx : Box W1 W9.heap.size (roCells R p0 p1 p2 p3 p4 p5 k0 k1 k2 k3 k4 k5) 28 := hW1 ▸ Box.new W9 _ _
  have IR : Hid (IsR W1 (.agg (roCells R p0 p1 p2 p3 p4 p5 k0 k1 k2 k3 k4 k5)) R) := HP9.out.after hb10
  have BX := Lib.hid bx
  have hlx := bx.lt
  have VPX := Lib.hid (VP9.out.after hb10)
  have BOX := Lib.hid (BO9.out.after hb10)
  have HBX := Lib.hid (HB9.out.trans (hb10.mono HB9.out.size))
  have cj0 : CJ R a c W1 w4.heap.size w8.heap.size 0 W1 := by
    refine ⟨?_, ⟨W7.heap.size, 1, BG.out.after hb10, (HG9.out.after hb10).cong fun k => ?_, by rw [cum_zero]; omega⟩, Fx.refl _ _⟩
    · rw [cum_zero, Nat.pow_zero, show gS R a c 0 = 0 from rfl, hz0]
      exact VS9.out.after hb10
    · unfold goingF
      rw [show dN R 0 = 1 from rfl, cum_zero, Nat.pow_zero]
      by_cases hk : k = 0
      · subst hk
        rw [if_pos rfl, if_pos (by omega), show gN R a c 0 0 = 1 from rfl, hy0]
      · rw [if_neg hk, if_neg (by omega)]
  have CJ0 := Lib.hid cj0
  rw [← hW1]
  clear hW1 hb10 bx cj0 c0 c1 c2 c3 c4 c5 c6 c7 HG9 VS9 HP9 VP9 BO9 HB9 BG hz0 hy0
  have hw16 := waves_le HV.out
  go_wp2_with fail
  have HCX : Hid (∀ r W, CJ R a c W1 w4.heap.size w8.heap.size r W → Box W W9.heap.size (roCells R p0 p1 p2 p3 p4 p5 k0 k1 k2 k3 k4 k5) 28 ∧ IsR W (.agg (roCells R p0 p1 p2 p3 p4 p5 k0 k1 k2 k3 k4 k5)) R) := by
    intro r W hj
    exact ⟨BX.out.fx hj.2.2 (by rintro (e | e) <;> omega), IR.out.fx hj.2.2 CJ0.out.dull⟩
  refine' (wpIn_wide (n := 6)).1 (wpIn_range_inv (n := 6) rfl (by omega) (gf := 27) (lb := #[.pointer (some ⟨W9.heap.size, 0, none⟩)]) rfl trivial (enters_of Try.func27 (by kernel_rfl) rfl) R.waves.length (CJ R a c W1 w4.heap.size w8.heap.size) (BndV R) (fun _ _ => False)
    (by rintro r args W ⟨m, a, c, rfl, _⟩; rfl) (fun r W h => h.2.2.size) (fun r W W' h hb => h.after hb) (fun r W W' l hl h hs hg => h.soft hl hs hg) CJ0.out
    (fun l W2 J' Y hJJ hJb hJ0 hYY => callsIn_wide.2 (bounds1_t l (6 - 1 - 1) W2 W9.heap.size R p0 p1 p2 p3 p4 p5 k0 k1 k2 k3 k4 k5 HV.out J' Y (fun r W h => HCX.out r W (hJJ r W h)) hJb hJ0 hYY))
    (AsB R _) ?hA ?assign ?body ?done ?stop)
  case hA =>
    rintro r args a1 W wA ⟨m, a, c, _, rfl, _⟩
    exact held_alloc (Below.refl _ W)
  case assign =>
    intro l r args W K hr hj hv hK
    obtain ⟨m, a, c, rfl, hm⟩ := hv
    have HM := Lib.hid hm
    clear hm hj
    gi_wp2
    exact AsB.mk HM.out
  case stop =>
    rintro l r W3 W hr hx
    exact hx.elim
  case done =>
    intro W hj hK
    have hfx := hj.2.2
    have hvs := hj.1
    obtain ⟨o1, ho1⟩ : ∃ o, FQ (gS R a c R.waves.length) ((a + c) ^ cum R R.waves.length) = o := ⟨_, rfl⟩
    have hspec2 : Hid (chanceF R x = (o1, 0)) := by show _ = _; rw [hspec.out, ho1]
    rw [ho1] at hvs
    have hbo := BOX.out.fx hfx (by rintro (e | e) <;> omega)
    obtain ⟨vs1, vs2, bs, h1, h2⟩ := hvs
    obtain ⟨ps, cs, rfl, _, _⟩ := h1.shape
    obtain ⟨qs, cqs, rfl, _, _⟩ := h2.shape
    obtain ⟨s0, s1, s2⟩ := bs.cells3
    obtain ⟨z0', z1', z2'⟩ := hbo.cells3
    have f0 := hbo.frozen 0
    have f1 := hbo.frozen 1
    have f2 := hbo.frozen 2
    have hb := HBX.out.trans (hfx.toBelow HBX.out.size (by rintro b (rfl | rfl) <;> omega))
    have hlo := hbo.lt
    have HVE := Lib.hid (varF_set3 hbo (by intro x h; cases h) (by intro x h; cases h) (by intro x h; cases h) h1 h2)
    have HBE := Lib.hid (show Below w.heap.size w (((W.setCell ⟨w.heap.size + 2, 0, none⟩ (.bool o1.neg)).setCell ⟨w.heap.size + 2, 1, none⟩ (.slice ps o1.num.length cs)).setCell ⟨w.heap.size + 2, 2, none⟩ (.slice qs o1.den.length cqs)) from ((hb.setCell (p := ⟨w.heap.size + 2, 0, none⟩) (by simp) _).setCell (p := ⟨w.heap.size + 2, 1, none⟩) (by simp) _).setCell (p := ⟨w.heap.size + 2, 2, none⟩) (by simp) _)
    have hKE : (((W.setCell ⟨w.heap.size + 2, 0, none⟩ (.bool o1.neg)).setCell ⟨w.heap.size + 2, 1, none⟩ (.slice ps o1.num.length cs)).setCell ⟨w.heap.size + 2, 2, none⟩ (.slice qs o1.den.length cqs)).heap[W1.heap.size]? = some (.deferred (some [])) :=
      (((grown_set3 W (w.heap.size + 2) _ _ _).block W1.heap.size (Array.getElem?_eq_some_iff.1 hK).1 (by intro e; injection e with e; omega))).trans hK
    have HKE := Lib.hid hKE
    clear hj hfx hbo bs h1 h2 hb hKE hK ho1
    go_wp2_with fail
    obtain ⟨WE, hWE⟩ : ∃ WE, WE = ((W.setCell ⟨w.heap.size + 2, 0, none⟩ (.bool o1.neg)).setCell ⟨w.heap.size + 2, 1, none⟩ (.slice ps o1.num.length cs)).setCell ⟨w.heap.size + 2, 2, none⟩ (.slice qs o1.den.length cqs) := ⟨_, rfl⟩
    rw [← hWE] at HVE HBE HKE
    rw [show w.heap.size + 1 + 1 = w.heap.size + 2 from rfl, ← hWE]
    clear hWE
    have hs9 : Soft WE W1.heap.size := .inr ⟨_, HKE.out⟩
    have hgr9 := putObj_grown2 WE W1.heap.size (.deferred none)
    have hbe := HBE.out.grown hgr9 HBE.out.size (fun g e => by injection e with e; have := HBX.out.size; omega)
    obtain ⟨va9, vb9, b9, h1, h2⟩ := HVE.out.soft hs9 hgr9
    obtain ⟨e0, e1, e2⟩ := b9.cells3
    refine ⟨by simp, .inl ⟨_, _, rfl, run_takeDeferred HKE.out, ?_⟩⟩
    refine ⟨.tuple #[.agg #[.bool o1.neg, va9, vb9], .int .i64 0], by simp [results, Try.results10, go_sem, e0, e1, e2], ?_⟩
    rw [hspec2.out]
    exact ⟨_, rfl, ⟨va9, vb9, rfl, h1, h2⟩, hbe⟩
  case body =>
    rintro l r args W wA w3 a1 hr hj hv ⟨m, a', c', ⟨hm, hg, hsl⟩, rfl, rfl⟩ hj2 hsf hlW hgr
    obtain ⟨hvs, ⟨M, n, hbG, hMF, hn⟩, hfx⟩ := hj2
    have hmo : mOf R (cum R (r + 1)) = m := mOf_eq hm hg
    have bv := (Box.new W #[.int .i64 ((cum R (r + 1) : Nat) : Int), .int .i64 ((m : Int) - 1), .slice a' (hostsOf R (cum R r) (cum R (r + 1))).length c'] 57).soft hsf hgr
    have hL : (hostsOf R (cum R r) (cum R (r + 1))).length = wv R r := hostsOf_len HV.out hr
    rw [hL] at bv
    obtain ⟨s1, s2⟩ := cum_wv HV.out hr
    have s4 := cum_le HV.out (r + 1)
    have h16 : R.hosts.length ≤ 16 := HV.out.2.1
    have hwj : wv R r ≤ 16 := by omega
    have hszW : W1.heap.size ≤ W.heap.size := hj.2.2.size
    have hsz3 : W.heap.size < w3.heap.size := bv.lt
    have vp3 : VarF w3 (w.heap.size + 1) x := VPX.out.fx hfx CJ0.out.dull (by rintro (e | e) <;> omega)
    have hsG := hbG.lt
    have hb4 : Below w3.heap.size w3 ((w3.alloc (.map #[] 0)).alloc (.cells #[.map (some w3.heap.size)] 62)) := held_alloc (held_alloc (Below.refl _ w3))
    have hM4 : MapF ((w3.alloc (.map #[] 0)).alloc (.cells #[.map (some w3.heap.size)] 62)) w3.heap.size 0 (fun _ => none) := (MapF.made w3).after (held_alloc (Below.refl _ _))
    have bN := Box.new (w3.alloc (.map #[] 0)) #[.map (some w3.heap.size)] 62
    have hMs := hMF.lt
    have hmm3 := run_makeMap (P := Try.prog) 62 w3
    have HVS3 := Lib.hid hvs
    have HBG3 := Lib.hid hbG
    have HMF3 := Lib.hid hMF
    have HFX3 := Lib.hid hfx
    have BV3 := Lib.hid bv
    have VP3 := Lib.hid vp3
    have HB4 := Lib.hid hb4
    have HM4 := Lib.hid hM4
    have BN := Lib.hid bN
    have HSW : Hid (∀ g, w3.heap.size ≤ g → W1.heap.size ≤ g) := fun g h => by omega
    have HN := Lib.hid hn
    have hvl := hvs.lt
    have hpl := vp3.lt
    have HMO := Lib.hid hmo
    clear hj hv hm hg hsl hsf hgr hlW hL hvs hbG hMF hfx bv vp3 hb4 hM4 bN hn hmo
    gi_upto_region 12 with fail
    have bN : Box ((w3.alloc (.map #[] 0)).alloc (.cells #[.map (some w3.heap.size)] 62)) (w3.heap.size + 1) #[.map (some w3.heap.size)] 62 := by simpa using BN.out
    obtain ⟨W4, hW4⟩ : ∃ W4, W4 = (w3.alloc (.map #[] 0)).alloc (.cells #[.map (some w3.heap.size)] 62) := ⟨_, rfl⟩
    have hsz4 : W4.heap.size = w3.heap.size + 2 := by rw [hW4]; simp
    have HB4 := HB4
    rw [← hW4] at HB4 HM4 bN
    rw [← hW4]
    have HBN := Lib.hid bN
    have bv4 := BV3.out.after HB4.out
    obtain ⟨v0, v1, v2⟩ := bv4.cells3
    have BV4 := Lib.hid bv4
    have VS4 := Lib.hid (HVS3.out.after HB4.out)
    have BG4 := Lib.hid (HBG3.out.after HB4.out)
    have MF4 := Lib.hid (HMF3.out.after HB4.out)
    have VP4 := Lib.hid (VP3.out.after HB4.out)
    have HFX4 := Lib.hid (HFX3.out.below HB4.out)
    have KS4 := Lib.hid (KeepSoft.of_below (B := W1.heap.size) HB4.out)
    have PJ0 := Lib.hid (PJ.start HV.out hr HPOS.out VS4.out HM4.out)
    clear hW4 hmm3 HB4 bv4 bN BV3 HVS3 HBG3 HMF3 VP3 HFX3 BN HM4
    have hw1 : IntKind.i64.wrap ((wv R r : Int) + 1) = (wv R r : Int) + 1 := wrap_in (by omega) (by omega)
    gi_wp2
    gi_loopg [62] (wv R r + 1) (fun g t wx => ∃ j : Nat, j ≤ wv R r + 1 ∧ g = wv R r + 1 - j ∧ t = .int .i64 (j : Int) ∧ Hid (∃ n', n' ≤ j * 2 ^ cum R r ∧ PJ R a c r W4 w4.heap.size w3.heap.size n' j (fun _ => false) wx))
    case atStart => exact ⟨0, Nat.zero_le _, rfl, rfl, ⟨0, Nat.zero_le _, PJ0.out⟩⟩
    case round =>
      obtain ⟨j, hjw, rfl, rfl, hpj⟩ := hrel
      by_cases hlt : j ≤ wv R r
      · obtain ⟨n1, hn1, hp1⟩ := hpj.out
        have hd4 : Hid (Dull (chS w4.heap.size w3.heap.size) W4) := PJ0.out.dull
        have hf1 := hp1.2.2
        have hbv1 := BV4.out.fx hf1 (by rintro (e | e) <;> omega)
        obtain ⟨v0, v1, v2⟩ := hbv1.cells3
        have hvp1 := VP4.out.fx hf1 hd4.out (by rintro (e | e) <;> omega)
        obtain ⟨va', vb', bp1, g1, g2⟩ := hvp1
        obtain ⟨px, cpx, rfl, _, _⟩ := g1.shape
        obtain ⟨qx, cqx, rfl, _, _⟩ := g2.shape
        obtain ⟨x0, x1, x2⟩ := bp1.cells3
        have HXR := Lib.hid (show IsF wr (.agg #[.bool x.neg, .slice px x.num.length cpx, .slice qx x.den.length cqx]) x from ⟨_, _, rfl, g1, g2⟩)
        have HP1 := Lib.hid hp1
        have HF1 := Lib.hid hf1
        have HE1 := Lib.hid (hexj.out (wv R r) j (by omega) hlt)
        have hjl : (j : Int) < (wv R r : Int) + 1 := by omega
        have hdN := dN_le r (Nat.le_of_lt hr) HV.out
        have HMUL : Hid (∀ k : Nat, opF mulN (FQ (gN R a c r k) ((a + c) ^ cum R r)) (FQ (ex a c (wv R r) j) ((a + c) ^ wv R r)) = (FQ (gN R a c r k * ex a c (wv R r) j) ((a + c) ^ cum R (r + 1)), 0)) := by
          intro k
          have hgb := gN_bound HV.out a c (Nat.le_of_lt hr) k
          have heb := ex_all_le a c (wv R r) j
          rw [← s1, Nat.pow_add]
          have hprod : gN R a c r k * ex a c (wv R r) j ≤ (a + c) ^ cum R (r + 1) := by rw [← s1, Nat.pow_add]; exact Nat.mul_le_mul hgb heb
          exact fq_mul (Nat.pow_pos HPOS.out) (Nat.pow_pos HPOS.out) (pow_short HAC.out (by omega) hgb) (pow_short HAC.out hwj heb) (pow_short HAC.out (by omega) (Nat.le_refl _)) (pow_short HAC.out hwj (Nat.le_refl _)) (pow_short HAC.out (by omega) hprod)
            (by rw [← Nat.pow_add, s1]; exact pow_short HAC.out (by omega) (Nat.le_refl _))
        obtain ⟨y, hy⟩ : ∃ y, FQ (ex a c (wv R r) j) ((a + c) ^ wv R r) = y := ⟨_, rfl⟩
        rw [hy] at HE1 HMUL
        clear hy hp1 hf1 hbv1 bp1 g1 g2
        gi_wp2
        refine (CallsIn.inRound l (callsIn_wide.2 (tExactly_c _ ((wv R r : Nat) : Int) (j : Int) _ x HXR.out))).mono ?_
        rw [HE1.out]
        rintro e w5 ⟨v5, rfl, hv5, hb5⟩
        simp only [] at hv5
        obtain ⟨vf', vg', rfl, h1, h2⟩ := hv5
        obtain ⟨pf, cpf, rfl, _, _⟩ := h1.shape
        obtain ⟨pk, cpk, rfl, _, _⟩ := h2.shape
        gi_upto_region 17 with fail
        obtain ⟨W6, hW6⟩ : ∃ W6, W6 = w5.alloc (.cells #[.bool y.neg, .slice pf y.num.length cpf, .slice pk y.den.length cpk] 26) := ⟨_, rfl⟩
        have vy : VarF W6 w5.heap.size y := hW6 ▸ VarF.make h1 h2
        have hb6 : Below w5.heap.size w5 W6 := hW6 ▸ held_alloc (Below.refl _ w5)
        have hb56 := hb5.trans (hb6.mono hb5.size)
        rw [← hW6]
        have hp6 := HP1.out.after hb56
        have hf6 := hp6.2.2
        have hsz6 := hf6.size
        have hsz5 := Nat.le_trans HF1.out.size hb5.size
        have hyl := vy.lt
        have hbg6 := BG4.out.fx hf6 (by rintro (e | e) <;> omega)
        have hneM := MF4.out.ne_var VS4.out
        have hmf6 := MF4.out.fx hf6 hd4.out (by rintro (e | e) <;> omega)
        obtain ⟨D, hD1, hD2⟩ := hmf6
        have hcnt : Maps.size D ≤ 2 ^ cum R r := Nat.le_trans hD1.size_le HN.out
        have gc0 : W6.cell? ⟨w8.heap.size, 0, none⟩ = some (.map (some M)) := hbg6.cell 0
        have HP6 := Lib.hid hp6
        have HF6 := Lib.hid hf6
        have VY := Lib.hid vy
        have HD1 := Lib.hid hD1
        have HD2 := Lib.hid hD2
        have HCNT := Lib.hid hcnt
        have HNE := Lib.hid hneM
        clear hW6 vy hb6 hb56 hb5 h1 h2 hp6 hf6 hbg6 hD1 hD2 hcnt hneM x0 x1 x2 v0 v1 v2 HXR
        gi_wp2_with (gi_at_range; refine wpListIn_range_own _ rfl _ 62 rfl 3 26 mapLawI Try.underlying62 rdV M n D rfl HD1.out ?_)
        intro WR hrg hgn hsR

        have hbR := below_of_grown hgn
        have hr0 : M < W6.heap.size := HD1.out.lt
        have hij : IJ R a c r W4 w4.heap.size w3.heap.size j WR M W6.heap.size n ((j + 1) * 2 ^ cum R r) D (Maps.size D) WR := by
          refine ⟨fun _ => false, Maps.has D, n1, ?_, hrg, LJ.start HD2.out, HP6.out.after hbR, Fx.refl _ _⟩
          rw [Nat.add_mul, Nat.one_mul]
          exact Nat.add_le_add hn1 HCNT.out
        have HIJ := Lib.hid hij
        have VYR := Lib.hid (VY.out.after hbR)
        have HDT : Hid (Dull (chT w4.heap.size w3.heap.size W6.heap.size) WR) := by
          refine Dull.of fun g hg => ?_
          rcases hg with rfl | rfl | rfl
          · exact .inl ⟨_, (HP6.out.after hbR).1⟩
          · exact .inr (.inr (HP6.out.after hbR).2.1.noCells)
          · exact .inr (.inr (ranges_noCells hrg))
        have HD2R := Lib.hid (HD2.out.after hbR)
        have HFR := Lib.hid (HF6.out.below hbR)
        have BVR := Lib.hid (BV4.out.fx HFR.out (by rintro (e | e) <;> omega))
        have BNR := Lib.hid (HBN.out.fx HFR.out (by rintro (e | e) <;> omega))
        clear hrg hgn hbR hij gc0
        gi_wp2
        gi_loopg [] (Maps.size D) (fun g wx => Hid (IJ R a c r W4 w4.heap.size w3.heap.size j WR M W6.heap.size n ((j + 1) * 2 ^ cum R r) D g wx))
        case atStart => exact HIJ.out
        case round =>
          obtain ⟨vis, left, n', hn', hrg, hlj, hpj', hft⟩ := hrel.out
          have HLJ := Lib.hid hlj
          have HPJ := Lib.hid hpj'
          have HFT := Lib.hid hft
          have HRG := Lib.hid hrg
          clear hrel hlj hpj' hft hrg
          gi_wp2_with (gi_at_next; refine wpListIn_next_ranges _ rfl _ rfl 3 mapLawI rdV (Value.int .i64) id (fun _ _ h => invK_int h) (fun v _ _ => ⟨v, rfl⟩) M W6.heap.size n D left _ rfl HRG.out ?_ ?_)
          · intro hc0 hl0
            have hnx := PJ.next HPJ.out (HLJ.out.done hl0)
            have HNX := Lib.hid hnx
            clear hnx hl0 hc0
            gi_wp2
            gi_roundg (wv R r + 1 - (j + 1))
            case measure => omega
            case rel => exact ⟨j + 1, by omega, rfl, by go_num, ⟨n', by omega, HNX.out⟩⟩
          · intro z cc kl yy ps wn cnt' hkey hlk hrd hat hrg' hlt' hgr' hsz' hen'
            obtain ⟨k, rfl, hkD, hvk⟩ := HLJ.out.1 kl hlk
            obtain rfl := key_of_lit hkey
            have hftn : Fx (chT w4.heap.size w3.heap.size W6.heap.size) WR wn := HFT.out.of hgr' (.inr (.inr rfl))
            have hx := (elem_at HD2R.out hkD hrd hat).fx hftn HDT.out
            obtain ⟨xk, hxk⟩ : ∃ xk, FQ (gN R a c r k) ((a + c) ^ cum R r) = xk := ⟨_, rfl⟩
            have hmul := HMUL.out k
            rw [hxk] at hx hmul
            obtain ⟨vx1, vx2, rfl, i1, i2⟩ := hx
            obtain ⟨q1, cq1, rfl, _, _⟩ := i1.shape
            obtain ⟨q2, cq2, rfl, _, _⟩ := i2.shape
            have hvyn := VYR.out.fx hftn HDT.out (by rintro (e | e | e) <;> omega)
            obtain ⟨vy1, vy2, byn, i3, i4⟩ := hvyn
            obtain ⟨q3, cq3, rfl, _, _⟩ := i3.shape
            obtain ⟨q4, cq4, rfl, _, _⟩ := i4.shape
            obtain ⟨yc0, yc1, yc2⟩ := byn.cells3
            have hszn := hftn.size
            have hpn := HPJ.out.new hgr' (by omega) (ranges_noCells HRG.out) (by omega)
            have HPN := Lib.hid hpn
            have HFTN := Lib.hid hftn
            have HMULK := Lib.hid hmul
            have HRGN := Lib.hid hrg'
            have HVK := Lib.hid hvk
            have hb8 : Below wn.heap.size wn (wn.alloc (.cells #[.bool xk.neg, .slice q1 xk.num.length cq1, .slice q2 xk.den.length cq2] 26)) := held_alloc (Below.refl _ wn)
            have HX8 := Lib.hid (show IsF (wn.alloc (.cells #[.bool xk.neg, .slice q1 xk.num.length cq1, .slice q2 xk.den.length cq2] 26)) (.agg #[.bool xk.neg, .slice q1 xk.num.length cq1, .slice q2 xk.den.length cq2]) xk from ⟨_, _, rfl, i1.after hb8, i2.after hb8⟩)
            have HY8 := Lib.hid (show IsF (wn.alloc (.cells #[.bool xk.neg, .slice q1 xk.num.length cq1, .slice q2 xk.den.length cq2] 26)) (.agg #[.bool y.neg, .slice q3 y.num.length cq3, .slice q4 y.den.length cq4]) y from ⟨_, _, rfl, i3.after hb8, i4.after hb8⟩)
            have yd0 := keep_cell hb8 yc0
            have yd1 := keep_cell hb8 yc1
            have yd2 := keep_cell hb8 yc2
            have HB8' := Lib.hid hb8
            have bx8 := Box.new wn #[.bool xk.neg, .slice q1 xk.num.length cq1, .slice q2 xk.den.length cq2] 26
            obtain ⟨xc0, xc1, xc2⟩ := bx8.cells3
            clear hsz' hkey hlk hrd hat hgr' hftn hmul hrg' hvk hb8 bx8 i1 i2 i3 i4 byn hpn hxk
            gi_upto_region 20 with fail
            obtain ⟨W8, hW8⟩ : ∃ W8, W8 = wn.alloc (.cells #[.bool xk.neg, .slice q1 xk.num.length cq1, .slice q2 xk.den.length cq2] 26) := ⟨_, rfl⟩
            rw [← hW8] at HX8 HY8 yd0 yd1 yd2 HB8' xc0 xc1 xc2 ⊢
            clear hW8 hen' yc0 yc1 yc2
            gi_wp2
            refine (CallsIn.inRound l (callsIn_wide.2 (Mul_c _ _ _ xk y HX8.out HY8.out))).mono ?_
            rw [HMULK.out]
            rintro e w9 ⟨v9, rfl, hv9, hb9⟩
            simp only [] at hv9
            obtain ⟨tz, htz⟩ : ∃ tz, FQ (gN R a c r k * ex a c (wv R r) j) ((a + c) ^ cum R (r + 1)) = tz := ⟨_, rfl⟩
            rw [htz] at hv9
            obtain ⟨vz1, vz2, rfl, i1, i2⟩ := hv9
            obtain ⟨q5, cq5, rfl, _, _⟩ := i1.shape
            obtain ⟨q6, cq6, rfl, _, _⟩ := i2.shape
            have hb9' := Lib.hid hb9
            have I1 := Lib.hid i1
            have I2 := Lib.hid i2
            have HTZ := Lib.hid htz
            clear hb9 i1 i2 xc0 xc1 xc2 yd0 yd1 yd2 HX8 HY8 htz
            gi_upto_region 21 with fail
            obtain ⟨W10, hW10⟩ : ∃ W10, W10 = w9.alloc (.cells #[.bool tz.neg, .slice q5 tz.num.length cq5, .slice q6 tz.den.length cq6] 26) := ⟨_, rfl⟩
            have hb10 : Below w9.heap.size w9 W10 := hW10 ▸ held_alloc (Below.refl _ w9)
            have bz := Box.new w9 #[.bool tz.neg, .slice q5 tz.num.length cq5, .slice q6 tz.den.length cq6] 26
            rw [← hW10] at bz ⊢
            obtain ⟨zc0, zc1, zc2⟩ := bz.cells3
            have hbn10 : Below wn.heap.size wn W10 := HB8'.out.trans ((hb9'.out.trans (hb10.mono hb9'.out.size)).mono HB8'.out.size)
            have HZ := Lib.hid (show IsF W10 (.agg #[.bool tz.neg, .slice q5 tz.num.length cq5, .slice q6 tz.den.length cq6]) tz from ⟨_, _, rfl, I1.out.after hb10, I2.out.after hb10⟩)
            have hp10 := HPN.out.after hbn10
            have hft10 := HFTN.out.below hbn10
            have hbv10 := BVR.out.fx hft10 (by rintro (e | e | e) <;> omega)
            have hbn := BNR.out.fx hft10 (by rintro (e | e | e) <;> omega)
            have bc1 : W10.cell? ⟨W.heap.size, 1, none⟩ = some (.int .i64 ((mOf R (cum R (r + 1)) : Int) - 1)) := by rw [HMO.out]; exact hbv10.cell 1
            have nc0 : W10.cell? ⟨w3.heap.size + 1, 0, none⟩ = some (.map (some w3.heap.size)) := hbn.cell 0
            have hrg10 := HRGN.out.kept (grownBy_of_below hbn10) (by simp) (by simp)
            have hgk : cnt' + 1 ≤ gk := hlt'
            have hC : (j + 1) * 2 ^ cum R r ≤ 17 * 65536 := Nat.mul_le_mul (by omega) (Nat.le_trans (Nat.pow_le_pow_right (by omega) (show cum R r ≤ 16 by omega)) (by decide))
            have hcall := chance1_c W10 R HV.out a c r hr HAC.out HPOS.out j k vis hlt hkD HVK.out _ W.heap.size w4.heap.size (w3.heap.size + 1) w3.heap.size n' (by rw [HTZ.out]; exact HZ.out) bc1 hbv10.lt nc0 hbn.lt hp10.1 hp10.2.1 (by omega)
            rw [Int.natCast_add] at hcall
            have HCALL := Lib.hid hcall
            have HF10 := Lib.hid hp10.2.2
            have HFT10 := Lib.hid hft10
            have HRG10 := Lib.hid hrg10
            have hkj : IntKind.i64.wrap ((k : Int) + (j : Int)) = (k : Int) + (j : Int) := wrap_in (by omega) (by omega)
            clear hW10 hb10 bz hbn10 hp10 hft10 hbv10 hbn bc1 nc0 hrg10 hcall hC
            gi_wp2
            refine (CallsIn.inRound l (callsIn_wide.2 HCALL.out)).mono ?_
            rintro e w11 ⟨⟨uu, rfl⟩, hs11, hM11, hf11⟩
            have hMne : M ≠ w4.heap.size := HNE.out.symm
            have hr11 := ranges_fx HRG10.out (hf11.block M (HRG10.out.owns.lt) (by rintro (e | e) <;> omega)) (hf11.block W6.heap.size HRG10.out.lt (by rintro (e | e) <;> omega))
            have hij11 : IJ R a c r W4 w4.heap.size w3.heap.size j WR M W6.heap.size n ((j + 1) * 2 ^ cum R r) D cnt' w11 :=
              ⟨_, _, n' + 1, by omega, hr11, HLJ.out.step hkD, ⟨hs11, hM11, HF10.out.trans hf11⟩, HFT10.out.trans (hf11.mono (by rintro b (rfl | rfl); exact .inl rfl; exact .inr (.inl rfl)))⟩
            have HIJ11 := Lib.hid hij11
            clear hs11 hM11 hf11 hr11 hij11 zc0 zc1 zc2
            gi_wp2
            gi_roundg cnt'
            case measure => omega
            case rel => exact HIJ11.out
      · obtain rfl : j = wv R r + 1 := by omega
        obtain ⟨n1, hn1, hp1⟩ := hpj.out
        have hf1 := hp1.2.2
        have hgn1 : Box wr w8.heap.size #[.map (some M)] 62 := BG4.out.fx hf1 (by rintro (e | e) <;> omega)
        have hbn1 := HBN.out.fx hf1 (by rintro (e | e) <;> omega)
        have hcj := CJ.next (gB := w8.heap.size) (M := M) HV.out hr (by omega) (HSW.out _ (Nat.le_refl _)) (by omega) (by omega) HFX4.out BG4.out hn1 hp1
        have hks : KeepSoft W1.heap.size w3 (wr.setCell ⟨w8.heap.size, 0, none⟩ (.map (some w3.heap.size))) :=
          (KS4.out.fx hf1 PJ0.out.notSoft).setCell (hgn1.cell 0)
        have gc0 := hgn1.cell 0
        have gcf := hgn1.frozen 0
        have nc0 : wr.cell? ⟨w3.heap.size + 1, 0, none⟩ = some (.map (some w3.heap.size)) := hbn1.cell 0
        have gc1 : wr.cell? ⟨w8.heap.size, 0, none⟩ = some (.map (some M)) := gc0
        have HCJ := Lib.hid hcj
        have HKS := Lib.hid hks
        have hnl : ¬ ((wv R r : Int) + 1 < (wv R r : Int) + 1) := by omega
        rw [Int.natCast_add]
        clear hp1 hf1 hgn1 hbn1 hcj hks gc0
        gi_wp2
        exact ⟨HCJ.out, HKS.out⟩

theorem Chance_c (w : World) (v u : Value) (R : Ro) (x : F) (h : IsR w v R) (hp : IsF w u x) : Calls Try.prog 10 #[v, u] w (RetF w (chanceF R x)) := by
  by_cases hv : ValidR R
  · by_cases hr : rateE x = 0
    · exact cChance_good w v u R x h hp hv hr
    · exact cChance_rate w v u R x h hp hv hr
  · exact cChance_invalid w v u R x h hp hv
end Go.Proofs.Ytebmegodeglobaa
