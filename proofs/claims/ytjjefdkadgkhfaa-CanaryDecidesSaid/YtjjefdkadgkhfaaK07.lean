/- Walks: reduced and its closure, Of.
   Walks: reduced, Of, both, turned.
   Walks of the reference: Valid, Same, Made, Of.
   Walks: both, turned, sum, Add, Sub.
   Walks of the reference: Same, Made, size, Of.
   Walks of the reference: Of. -/
import Derived.Test.YtjjefdkadgkhfaaK06
import Derived.Deep.RegionHeld3
set_option linter.unusedVariables false
namespace Go.Proofs.Ytjjefdkadgkhfaa
open Go.RowKit

theorem div_gcd {n d : Nat} : Nat.gcd n d * (n / Nat.gcd n d) = n := Nat.mul_div_cancel' (Nat.gcd_dvd_left n d)

set_option maxRecDepth 100000 in
set_option maxHeartbeats 1000000 in
theorem reduced1_c (w : World) (va vb : Value) (n d g0 : Nat) (neg : Bool) (h : Sl w va (limbs n)) (k : Sl w vb (limbs d)) (hd : 0 < d) (hc : w.cell? ⟨g0, 0, none⟩ = some (.bool neg))
    (ha : (limbs n).length ≤ 1000000) (hb : (limbs d).length ≤ 1000000) :
    Calls Try.prog 55 #[va, vb, .pointer (some ⟨g0, 0, none⟩)] w (RetF w (made neg n d)) := by
  have hg0 := World.block_lt_of_cell? _ _ hc
  simp only at hg0
  have W1 := (Below.refl w.heap.size w).alloc (Nat.le_refl _) (.cells #[.bool false, .slice none 0 0, .slice none 0 0] 30)
  have g1 := h.alloc (.cells #[.bool false, .slice none 0 0, .slice none 0 0] 30)
  have g2 := k.alloc (.cells #[.bool false, .slice none 0 0, .slice none 0 0] 30)
  have hgp : 0 < Nat.gcd n d := Nat.gcd_pos_of_pos_right _ hd
  have H1 := Lib.hid g1
  have H2 := Lib.hid g2
  have HM : Hid (made neg n d = if 32 < (limbs (n / Nat.gcd n d)).length ∨ 32 < (limbs (d / Nat.gcd n d)).length then (F0, 3)
      else (fr (neg && decide (0 < n / Nat.gcd n d)) (n / Nat.gcd n d) (d / Nat.gcd n d), 0)) := by unfold made; congr
  clear h k g1 g2
  go_enter Try.func55, Try.ntmps55
  go_wp2_with fail
  refine (common_c _ _ _ _ _ H1.out H2.out ha hb).mono ?_
  rintro e w1 ⟨vg, rfl, hg, hb1⟩
  have K1 := Lib.hid (H1.out.after hb1)
  have K2 := Lib.hid (H2.out.after hb1)
  have HG := Lib.hid hg
  have HB1 := Lib.hid hb1
  clear H1 H2 hg hb1
  generalize hgg : Nat.gcd n d = g at *
  clear hgg
  go_wp2_with fail
  refine (divide_c _ _ _ _ _ K1.out HG.out hgp ha).mono ?_
  rintro e w2 ⟨v1, v2, rfl, hv1, hv2, hb2⟩
  have K3 := Lib.hid (K2.out.after hb2)
  have HG2 := Lib.hid (HG.out.after hb2)
  have HB2 := Lib.hid hb2
  obtain ⟨p, cp, rfl, hp1, hp2⟩ := hv1.shape
  have HV1 := Lib.hid hv1
  clear K1 K2 HG hv1 hv2 hb2
  go_wp2_with fail
  refine (divide_c _ _ _ _ _ K3.out HG2.out hgp hb).mono ?_
  rintro e w3 ⟨v3, v4, rfl, hv3, hv4, hb3⟩
  obtain ⟨q, cq, rfl, hq1, hq2⟩ := hv3.shape
  have HV2 := Lib.hid (HV1.out.after hb3)
  have HV3 := Lib.hid hv3
  have HB3 := Lib.hid hb3
  clear K3 HG2 HV1 hv3 hv4 hb3
  generalize hx : n / g = x at *
  generalize hy : d / g = y at *
  clear hx hy
  have hw3 : Below (w.heap.size + 1) (w.alloc (.cells #[.bool false, .slice none 0 0, .slice none 0 0] 30)) w3 := by
    have s1 := HB1.out.size
    have s2 := HB2.out.size
    simp only [World.size_alloc] at s1
    have := (HB1.out.mono (by simp)).trans ((HB2.out.mono s1).trans (HB3.out.mono (Nat.le_trans s1 s2)))
    exact this
  have hbx := (Box.new w #[.bool false, .slice none 0 0, .slice none 0 0] 30).after (w' := w3) (by simpa using hw3)
  have r0 := hbx.cell 0
  have r1 := hbx.cell 1
  have r2 := hbx.cell 2
  have f0 := hbx.frozen 0
  have f1 := hbx.frozen 1
  have f2 := hbx.frozen 2
  have hcg : w3.cell? ⟨g0, 0, none⟩ = some (.bool neg) := (hw3.cell (p := ⟨g0, 0, none⟩) (by show g0 < _; omega)).trans ((World.cell?_alloc_lt w _ _ hg0).trans hc)
  have HW3 := Lib.hid hw3
  have HBX := Lib.hid hbx
  have hrl : w.heap.size < w3.heap.size := hbx.lt
  simp only [List.getElem?_toArray, List.getElem?_cons_zero, List.getElem?_cons_succ] at r0 r1 r2
  have hbw : Below w.heap.size w w3 := W1.trans (HW3.out.mono (by omega))
  clear hw3 hbx HB1 HB2 HB3 hc
  by_cases hbig : 32 < (limbs x).length ∨ 32 < (limbs y).length
  · have HG := Lib.hid hbig
    have hmx : 32 < max (limbs x).length (limbs y).length := by omega
    clear hbig
    go_wp2_with fail
    refine bodyPost_ret (v := .tuple #[.agg #[.bool false, .slice none 0 0, .slice none 0 0], .int .i64 3]) (by simp [results, Try.results55, go_sem, r0, r1, r2]) rfl ?_
    rw [HM.out, if_pos HG.out]
    exact ⟨_, rfl, IsF.zero _, ((hbw.setCell (Nat.le_refl _) _).setCell (Nat.le_refl _) _).setCell (Nat.le_refl _) _⟩
  · have HG := Lib.hid hbig
    have hm1 : (limbs x).length ≤ 32 := by omega
    have hm2 : (limbs y).length ≤ 32 := by omega
    clear hbig
    rcases Nat.lt_or_ge 0 x with hx0 | hx0
    · have hl := limbs_len_pos hx0
      cases neg with
      | true =>
        go_wp2_with fail
        refine bodyPost_ret (v := .tuple #[.agg #[.bool true, .slice p (limbs x).length cp, .slice q (limbs y).length cq], .int .i64 0]) (by simp [results, Try.results55, go_sem, r0, r1, r2]) rfl ?_
        rw [HM.out, if_neg HG.out, show (true && decide (0 < x)) = true from by simp [hx0]]
        exact ⟨_, rfl, IsF.result HBX.out (fun _ h => by cases h) (fun _ h => by cases h) HV2.out HV3.out, ((hbw.setCell (Nat.le_refl _) _).setCell (Nat.le_refl _) _).setCell (Nat.le_refl _) _⟩
      | false =>
        go_wp2_with fail
        refine bodyPost_ret (v := .tuple #[.agg #[.bool false, .slice p (limbs x).length cp, .slice q (limbs y).length cq], .int .i64 0]) (by simp [results, Try.results55, go_sem, r0, r1, r2]) rfl ?_
        rw [HM.out, if_neg HG.out, Bool.false_and]
        exact ⟨_, rfl, IsF.result HBX.out (fun _ h => by cases h) (fun _ h => by cases h) HV2.out HV3.out, ((hbw.setCell (Nat.le_refl _) _).setCell (Nat.le_refl _) _).setCell (Nat.le_refl _) _⟩
    · obtain rfl : x = 0 := by omega
      have e1 : decide (0 < 0) = false := rfl
      have HV2' : Hid (Sl w3 (.slice p 0 cp) (limbs 0)) := by have := HV2.out; rwa [show (limbs 0).length = 0 from by rw [limbs_zero]; rfl] at this
      have HE1 := Lib.hid e1
      clear e1 HV2
      simp only [limbs_zero, List.length_nil]
      cases neg with
      | true =>
        go_wp2_with fail
        refine bodyPost_ret (v := .tuple #[.agg #[.bool false, .slice p 0 cp, .slice q (limbs y).length cq], .int .i64 0]) (by simp [results, Try.results55, go_sem, r0, r1, r2]) rfl ?_
        rw [HM.out, if_neg HG.out, show (true && decide (0 < 0)) = false from rfl]
        exact ⟨_, rfl, IsF.result HBX.out (fun _ h => by cases h) (fun _ h => by cases h) HV2'.out HV3.out, ((hbw.setCell (Nat.le_refl _) _).setCell (Nat.le_refl _) _).setCell (Nat.le_refl _) _⟩
      | false =>
        go_wp2_with fail
        refine bodyPost_ret (v := .tuple #[.agg #[.bool false, .slice p 0 cp, .slice q (limbs y).length cq], .int .i64 0]) (by simp [results, Try.results55, go_sem, r0, r1, r2]) rfl ?_
        rw [HM.out, if_neg HG.out, Bool.false_and]
        exact ⟨_, rfl, IsF.result HBX.out (fun _ h => by cases h) (fun _ h => by cases h) HV2'.out HV3.out, ((hbw.setCell (Nat.le_refl _) _).setCell (Nat.le_refl _) _).setCell (Nat.le_refl _) _⟩
end Go.Proofs.Ytjjefdkadgkhfaa

namespace Go.Proofs.Ytjjefdkadgkhfaa
open Go.RowKit

/-- The closure that reduced returns. -/
def redFn (b : Nat) : Value := .func (.func 55) #[] #[.pointer (some ⟨b, 0, none⟩)]
set_option maxHeartbeats 400000 in
theorem reduced_c (w : World) (neg : Bool) :
    Calls Try.prog 34 #[.bool neg] w fun e w' => e = .returned (.func (.func 55) #[] #[.pointer (some ⟨w.heap.size, 0, none⟩)]) ∧ w.alloc (.cells #[.bool neg] 4) = w' := by
  go_enter Try.func34, Try.ntmps34
  go_wp2
  go_ret
  exact ⟨rfl, rfl⟩

theorem from_n (z : Int) (n : Nat) (hz : z = n) (hn : n ≤ 9223372036854775808) (w : World) :
    Calls Try.prog 53 #[.int .u64 z] w (RetNat w n) := from_i z n hz (by omega) w

set_option maxHeartbeats 400000 in
theorem size_c (w : World) (n : Int) (h0 : -9223372036854775808 ≤ n) (h1 : n ≤ 9223372036854775807) :
    Calls Try.prog 52 #[.int .i64 n] w (RetNat w n.natAbs) := by
  rcases Int.lt_or_le n 0 with hn | hn
  · go_enter Try.func52, Try.ntmps52
    go_wp2_with fail
    refine (from_n _ n.natAbs ?_ (by omega) _).mono ?_
    · simp only [IntKind.wrap_u64]; omega
    rintro e w1 ⟨v, rfl, hv, hb⟩
    have HV := Lib.hid hv
    have HB := Lib.hid hb
    clear hv hb
    go_wp2_with fail
    go_ret
    exact ⟨_, rfl, HV.out, HB.out⟩
  · go_enter Try.func52, Try.ntmps52
    go_wp2_with fail
    refine (from_n _ n.natAbs ?_ (by omega) _).mono ?_
    · omega
    rintro e w1 ⟨v, rfl, hv, hb⟩
    have HV := Lib.hid hv
    have HB := Lib.hid hb
    clear hv hb
    go_wp2_with fail
    go_ret
    exact ⟨_, rfl, HV.out, HB.out⟩

/-- What Of returns. -/
noncomputable def ofF (n d : Int) : F × Int := if d = 0 then (F0, 2) else made (!(decide (n < 0) == decide (d < 0))) n.natAbs d.natAbs

set_option maxRecDepth 100000 in
set_option maxHeartbeats 1000000 in
theorem Of_c (w : World) (n d : Int) (h0 : -9223372036854775808 ≤ n) (h1 : n ≤ 9223372036854775807) (k0 : -9223372036854775808 ≤ d) (k1 : d ≤ 9223372036854775807) :
    Calls Try.prog 31 #[.int .i64 n, .int .i64 d] w (RetF w (ofF n d)) := by
  by_cases hd : d = 0
  · subst hd
    go_enter Try.func31, Try.ntmps31
    go_wp2_with fail
    refine bodyPost_ret (v := .tuple #[.agg #[.bool false, .slice none 0 0, .slice none 0 0], .int .i64 2]) (by simp [results, Try.results31, go_sem]) rfl ?_
    exact ⟨_, rfl, IsF.zero _, (Below.refl _ w).alloc (Nat.le_refl _) _⟩
  · have hne : (d == 0) = false := beq_eq_false_iff_ne.2 hd
    have hof : Hid (ofF n d = made (!(decide (n < 0) == decide (d < 0))) n.natAbs d.natAbs) := by show ofF n d = _; unfold ofF; rw [if_neg hd]
    have hdp : 0 < d.natAbs := by omega
    clear hd
    go_enter Try.func31, Try.ntmps31
    go_wp2_with fail
    refine (reduced_c _ _).mono ?_
    rintro e w' ⟨rfl, rfl⟩
    go_wp2_with fail
    refine (size_c _ n h0 h1).mono ?_
    rintro e w1 ⟨v1, rfl, hv1, hb1⟩
    have HV1 := Lib.hid hv1
    have HB1 := Lib.hid hb1
    clear hv1 hb1
    go_wp2_with fail
    refine (size_c _ d k0 k1).mono ?_
    rintro e w2 ⟨v2, rfl, hv2, hb2⟩
    have HV1' := Lib.hid (HV1.out.after hb2)
    have HV2 := Lib.hid hv2
    have hb12 := HB1.out.trans (hb2.mono HB1.out.size)
    have bx := (Box.new w #[.bool false, .slice none 0 0, .slice none 0 0] 30)
    have bx2 := (bx.alloc (.cells #[.bool (!(decide (n < 0) == decide (d < 0)))] 4)).after (w' := w2) (by simpa using hb12)
    have bn := (Box.new (w.alloc (.cells #[.bool false, .slice none 0 0, .slice none 0 0] 30)) #[.bool (!(decide (n < 0) == decide (d < 0)))] 4).after (w' := w2) (by simpa using hb12)
    have hcn := bn.cell 0
    have bw : Below w.heap.size w w2 := (((Below.refl _ w).alloc (Nat.le_refl _) _).alloc (by simp) _).trans (hb12.mono (by simp; omega))
    have BX2 := Lib.hid bx2
    have BW := Lib.hid bw
    have hl1 : Hid (∀ m : Nat, m ≤ 9223372036854775808 → (limbs m).length ≤ 1000000) := fun m hm => by
      have := limbs_len_lt (n := m) (k := 2) (by omega)
      omega
    simp only [World.size_alloc] at hcn
    have HCN := Lib.hid hcn
    clear HV1 HB1 hv2 hb2 hb12 bx bx2 bn bw hcn
    go_wp2_with fail
    refine (reduced1_c w2 v1 v2 n.natAbs d.natAbs (w.heap.size + 1) (!(decide (n < 0) == decide (d < 0))) HV1'.out HV2.out hdp HCN.out (hl1.out _ (by omega)) (hl1.out _ (by omega))).mono ?_
    rw [← hof.out]
    rintro e w3 ⟨v3, rfl, hv3, hb3⟩
    obtain ⟨va, vb, rfl, hva, hvb⟩ := hv3
    have bx3 := BX2.out.after hb3
    obtain ⟨p, cp, rfl, hp1, hp2⟩ := hva.shape
    obtain ⟨q, cq, rfl, hq1, hq2⟩ := hvb.shape
    have bw := BW.out.trans (hb3.mono BW.out.size)
    have r0 := bx3.cell 0
    have r1 := bx3.cell 1
    have r2 := bx3.cell 2
    have f0 := bx3.frozen 0
    have f1 := bx3.frozen 1
    have f2 := bx3.frozen 2
    simp only [List.getElem?_toArray, List.getElem?_cons_zero, List.getElem?_cons_succ] at r0 r1 r2
    generalize hof2 : ofF n d = o at *
    obtain ⟨⟨neg, A, B⟩, er⟩ := o
    have HVA := Lib.hid hva
    have HVB := Lib.hid hvb
    have BX3 := Lib.hid bx3
    have BW3 := Lib.hid bw
    clear hva hvb bx3 bw hb3 BX2 BW HCN hof hof2
    simp only at HVA HVB
    go_wp2_with fail
    refine bodyPost_ret (v := .tuple #[.agg #[.bool neg, .slice p A.length cp, .slice q B.length cq], .int .i64 er]) (by simp [results, Try.results31, go_sem, r0, r1, r2]) rfl ?_
    exact ⟨_, rfl, IsF.result BX3.out (fun _ h => by cases h) (fun _ h => by cases h) HVA.out HVB.out, ((BW3.out.setCell (Nat.le_refl _) _).setCell (Nat.le_refl _) _).setCell (Nat.le_refl _) _⟩
end Go.Proofs.Ytjjefdkadgkhfaa

namespace Go.Proofs.Ytjjefdkadgkhfaa
open Go.RowKit

end Go.Proofs.Ytjjefdkadgkhfaa

namespace Go.Proofs.Ytjjefdkadgkhfaa
open Go.RowKit

/-- Two structs handed in, and a result struct: the three blocks that a function lays at its start. -/
theorem start3 (w : World) (A B C : Array Value) (t : TypeId) : ∃ W0, W0 = ((w.alloc (.cells A t)).alloc (.cells B t)).alloc (.cells C t) ∧
    Box W0 w.heap.size A t ∧ Box W0 (w.heap.size + 1) B t ∧ Box W0 (w.heap.size + 2) C t ∧ w.heap.size + 2 < W0.heap.size ∧ Below w.heap.size w W0 := by
  refine ⟨_, rfl, ((Box.new w A t).alloc _).alloc _, ?_, ?_, by simp, ?_⟩
  · have := (Box.new (w.alloc (.cells A t)) B t).alloc (.cells C t)
    simpa using this
  · have := Box.new ((w.alloc (.cells A t)).alloc (.cells B t)) C t
    simpa using this
  · exact (((Below.refl _ w).alloc (Nat.le_refl _) _).alloc (by simp) _).alloc (by simp; omega) _
theorem start2 (w : World) (A B : Array Value) (t : TypeId) : ∃ W0, W0 = (w.alloc (.cells A t)).alloc (.cells B t) ∧
    Box W0 w.heap.size A t ∧ Box W0 (w.heap.size + 1) B t ∧ w.heap.size + 1 < W0.heap.size ∧ Below w.heap.size w W0 := by
  refine ⟨_, rfl, (Box.new w A t).alloc _, ?_, by simp, ?_⟩
  · have := (Box.new (w.alloc (.cells A t)) B t)
    simpa using this
  · exact ((Below.refl _ w).alloc (Nat.le_refl _) _).alloc (by simp) _

/-- The three cells of a block. -/
theorem Box.cells3 {w : World} {b : Nat} {x y z : Value} {t : TypeId} (h : Box w b #[x, y, z] t) : w.cell? ⟨b, 0, none⟩ = some x ∧ w.cell? ⟨b, 1, none⟩ = some y ∧ w.cell? ⟨b, 2, none⟩ = some z :=
  ⟨h.cell 0, h.cell 1, h.cell 2⟩

set_option maxRecDepth 100000 in
set_option maxHeartbeats 1000000 in
theorem both_c (w : World) (v u : Value) (x y : F) (h : IsF w v x) (k : IsF w u y) : Calls Try.prog 28 #[v, u] w (RetC w (ValidF x ∧ ValidF y)) := by
  have HX := h
  have HY := k
  obtain ⟨va, vb, rfl, _, _⟩ := h
  obtain ⟨vc, vd, rfl, _, _⟩ := k
  obtain ⟨W0, hW, bx, by', hsz, hb0⟩ := start2 w #[.bool x.neg, va, vb] #[.bool y.neg, vc, vd] 30
  obtain ⟨c0, c1, c2⟩ := bx.cells3
  obtain ⟨d0, d1, d2⟩ := by'.cells3
  have H1 := Lib.hid (HX.after hb0)
  have H2 := Lib.hid (HY.after hb0)
  have HB0 := Lib.hid hb0
  clear HX HY bx by' hb0
  by_cases hx : ValidF x
  · have hx' := Lib.hid hx
    clear hx
    go_enter Try.func28, Try.ntmps28
    go_upto_region 1 with fail
    rw [← hW]
    clear hW
    go_wp2_with fail
    refine (Valid_c _ _ _ H1.out).mono ?_
    intro e w1 hr
    obtain ⟨rfl, hb1⟩ := hr.yes hx'.out
    obtain ⟨hc1, hf1⟩ := old_cells hb1
    have H3 := Lib.hid (H2.out.after hb1)
    have HB1 := Lib.hid (HB0.out.trans (hb1.mono HB0.out.size))
    clear hr hb1 H1 H2 HB0
    go_wp2_with fail
    refine (Valid_c _ _ _ H3.out).mono ?_
    rintro e w2 ⟨r, rfl, hr, hb2⟩
    have HR := Lib.hid hr
    have HB2 := Lib.hid hb2
    clear hr hb2 hc1 hf1
    go_wp2_with fail
    go_ret
    exact ⟨r, rfl, by rw [HR.out]; exact ⟨fun h => ⟨hx'.out, h⟩, fun h => h.2⟩, HB1.out.trans (HB2.out.mono HB1.out.size)⟩
  · have hx' := Lib.hid hx
    clear hx
    go_enter Try.func28, Try.ntmps28
    go_upto_region 1 with fail
    rw [← hW]
    clear hW
    go_wp2_with fail
    refine (Valid_c _ _ _ H1.out).mono ?_
    intro e w1 hr
    obtain ⟨rfl, hb1⟩ := hr.no hx'.out
    have HB1 := Lib.hid hb1
    clear hr hb1
    go_wp2_with fail
    go_ret
    exact ⟨false, rfl, by simp [hx'.out], HB0.out.trans (HB1.out.mono HB0.out.size)⟩

/-- The fraction with the other sign. -/
def turnF (x : F) : F := ⟨!x.neg && decide (0 < x.num.length), x.num, x.den⟩

/-- What a store of a whole struct into a result's block gives. -/
theorem IsF.at_ {w : World} {va vb : Value} {x : F} (h1 : Sl w va x.num) (h2 : Sl w vb x.den) : IsF w (.agg #[.bool x.neg, va, vb]) x := ⟨va, vb, rfl, h1, h2⟩

set_option maxRecDepth 100000 in
set_option maxHeartbeats 1000000 in
theorem turned_c (w : World) (v : Value) (x : F) (h : IsF w v x) : Calls Try.prog 38 #[v] w (RetF1 w (turnF x)) := by
  have HX := h
  obtain ⟨va, vb, rfl, ha, hb⟩ := h
  obtain ⟨p, cp, rfl, hp1, hp2⟩ := ha.shape
  obtain ⟨q, cq, rfl, hq1, hq2⟩ := hb.shape
  obtain ⟨W0, hW, bx, br, hsz, hb0⟩ := start2 w #[.bool x.neg, .slice p x.num.length cp, .slice q x.den.length cq] #[.bool false, .slice none 0 0, .slice none 0 0] 30
  obtain ⟨c0, c1, c2⟩ := bx.cells3
  obtain ⟨d0, d1, d2⟩ := br.cells3
  have f0 := bx.frozen 0
  have g0 := br.frozen 0
  have g1 := br.frozen 1
  have g2 := br.frozen 2
  have H1 := Lib.hid (ha.after hb0)
  have H2 := Lib.hid (hb.after hb0)
  have HB0 := Lib.hid hb0
  have BX := Lib.hid bx
  have BR := Lib.hid br
  have hnu : Hid (NoU #[.bool x.neg, .slice p x.num.length cp, .slice q x.den.length cq]) := NoU.three (fun _ h => by cases h) (fun _ h => by cases h) (fun _ h => by cases h)
  clear HX ha hb bx br hb0
  cases hng : x.neg with
  | true =>
    have e : Hid (turnF x = ⟨false, x.num, x.den⟩) := by show turnF x = _; unfold turnF; rw [hng]; rfl
    have HNG := Lib.hid hng
    rw [hng] at hW c0 BX hnu
    clear hng
    go_enter Try.func38, Try.ntmps38
    go_upto_region 1 with fail
    rw [← hW]
    clear hW
    go_wp2_with fail
    refine bodyPost_ret (v := .agg #[.bool false, .slice p x.num.length cp, .slice q x.den.length cq]) (by simp [results, Try.results38, go_sem, d0, d1, d2]) rfl ?_
    rw [e.out]
    have hbr := (BR.out.far (p := ⟨w.heap.size, 0, none⟩) (by simp) (.bool false))
    refine ⟨_, rfl, IsF.result hbr (fun _ h => by cases h) (fun _ h => by cases h) (H1.out.box BX.out hnu.out 0 _) (H2.out.box BX.out hnu.out 0 _), ?_⟩
    exact (((HB0.out.setCell (Nat.le_refl _) _).setCell (by simp) _).setCell (by simp) _).setCell (by simp) _
  | false =>
    rw [hng] at hW c0 BX hnu
    have HNG := Lib.hid hng
    clear hng
    rcases Nat.lt_or_ge 0 x.num.length with hl | hl
    · have e : Hid (turnF x = ⟨true, x.num, x.den⟩) := by show turnF x = _; unfold turnF; rw [HNG.out]; simp [hl]
      go_enter Try.func38, Try.ntmps38
      go_upto_region 1 with fail
      rw [← hW]
      clear hW
      go_wp2_with fail
      refine bodyPost_ret (v := .agg #[.bool true, .slice p x.num.length cp, .slice q x.den.length cq]) (by simp [results, Try.results38, go_sem, d0, d1, d2]) rfl ?_
      rw [e.out]
      have hbr := (BR.out.far (p := ⟨w.heap.size, 0, none⟩) (by simp) (.bool true))
      refine ⟨_, rfl, IsF.result hbr (fun _ h => by cases h) (fun _ h => by cases h) (H1.out.box BX.out hnu.out 0 _) (H2.out.box BX.out hnu.out 0 _), ?_⟩
      exact (((HB0.out.setCell (Nat.le_refl _) _).setCell (by simp) _).setCell (by simp) _).setCell (by simp) _
    · have hlen : x.num.length = 0 := by omega
      have e : Hid (turnF x = ⟨false, x.num, x.den⟩) := by show turnF x = _; unfold turnF; rw [HNG.out, hlen]; rfl
      rw [hlen] at hW c1 BX hnu H1
      rw [hlen]
      clear hlen hl hp1
      go_enter Try.func38, Try.ntmps38
      go_upto_region 1 with fail
      rw [← hW]
      clear hW
      go_wp2_with fail
      refine bodyPost_ret (v := .agg #[.bool false, .slice p 0 cp, .slice q x.den.length cq]) (by simp [results, Try.results38, go_sem, d0, d1, d2]) rfl ?_
      rw [e.out]
      have hbr := (BR.out.far (p := ⟨w.heap.size, 0, none⟩) (by simp) (.bool false))
      refine ⟨_, rfl, IsF.result hbr (fun _ h => by cases h) (fun _ h => by cases h) (H1.out.box BX.out hnu.out 0 _) (H2.out.box BX.out hnu.out 0 _), ?_⟩
      exact (((HB0.out.setCell (Nat.le_refl _) _).setCell (by simp) _).setCell (by simp) _).setCell (by simp) _
end Go.Proofs.Ytjjefdkadgkhfaa

namespace Go.Proofs.Ytjjefdkadgkhfaa
open Go.RowKit

set_option maxRecDepth 100000 in
set_option maxHeartbeats 1000000 in
theorem Same_c (w : World) (v u : Value) (x y : F) (h : IsF w v x) (k : IsF w u y) : Calls Try.prog 20 #[v, u] w (RetC w (x = y)) := by
  have HX := h
  have HY := k
  obtain ⟨va, vb, rfl, h1, h2⟩ := h
  obtain ⟨vc, vd, rfl, k1, k2⟩ := k
  obtain ⟨n1, A, B⟩ := x
  obtain ⟨n2, C, D⟩ := y
  obtain ⟨W0, hW, bx, by', hsz, hb0⟩ := start2 w #[.bool n1, va, vb] #[.bool n2, vc, vd] 30
  obtain ⟨c0, c1, c2⟩ := bx.cells3
  obtain ⟨d0, d1, d2⟩ := by'.cells3
  simp only at h1 h2 k1 k2
  have H1 := Lib.hid (h1.after hb0)
  have H2 := Lib.hid (h2.after hb0)
  have K1 := Lib.hid (k1.after hb0)
  have K2 := Lib.hid (k2.after hb0)
  have HB0 := Lib.hid hb0
  clear HX HY bx by' hb0 h1 h2 k1 k2
  by_cases hn : n1 = n2
  · subst hn
    by_cases hac : A = C
    · have hac' := Lib.hid hac
      clear hac
      go_enter Try.func20, Try.ntmps20
      go_upto_region 1 with fail
      rw [← hW]
      clear hW
      cases n1 with
      | true =>
        go_wp2_with fail
        refine (SameNat_c _ _ _ _ _ H1.out K1.out).mono ?_
        intro e w' hr
        obtain ⟨rfl, n, rfl⟩ := hr.yes hac'.out
        clear hr
        go_wp2_with fail
        refine (SameNat_c _ _ _ _ _ (H2.out.drewN n) (K2.out.drewN n)).mono ?_
        rintro e w' ⟨r, rfl, hr, n3, rfl⟩
        have HR := Lib.hid hr
        clear hr
        go_wp2_with fail
        go_ret
        exact ⟨r, rfl, HR.out.trans ⟨fun e => by rw [hac'.out, e], fun e => by injection e⟩, HB0.out.trans (below_drewN _ _ _)⟩
      | false =>
        go_wp2_with fail
        refine (SameNat_c _ _ _ _ _ H1.out K1.out).mono ?_
        intro e w' hr
        obtain ⟨rfl, n, rfl⟩ := hr.yes hac'.out
        clear hr
        go_wp2_with fail
        refine (SameNat_c _ _ _ _ _ (H2.out.drewN n) (K2.out.drewN n)).mono ?_
        rintro e w' ⟨r, rfl, hr, n3, rfl⟩
        have HR := Lib.hid hr
        clear hr
        go_wp2_with fail
        go_ret
        exact ⟨r, rfl, HR.out.trans ⟨fun e => by rw [hac'.out, e], fun e => by injection e⟩, HB0.out.trans (below_drewN _ _ _)⟩
    · have hac' := Lib.hid hac
      clear hac
      go_enter Try.func20, Try.ntmps20
      go_upto_region 1 with fail
      rw [← hW]
      clear hW
      cases n1 with
      | true =>
        go_wp2_with fail
        refine (SameNat_c _ _ _ _ _ H1.out K1.out).mono ?_
        intro e w' hr
        obtain ⟨rfl, n, rfl⟩ := hr.no hac'.out
        clear hr
        go_wp2_with fail
        go_ret
        exact ⟨false, rfl, by simp [hac'.out], HB0.out.trans (below_drewN _ _ _)⟩
      | false =>
        go_wp2_with fail
        refine (SameNat_c _ _ _ _ _ H1.out K1.out).mono ?_
        intro e w' hr
        obtain ⟨rfl, n, rfl⟩ := hr.no hac'.out
        clear hr
        go_wp2_with fail
        go_ret
        exact ⟨false, rfl, by simp [hac'.out], HB0.out.trans (below_drewN _ _ _)⟩
  · have hn' := Lib.hid hn
    go_enter Try.func20, Try.ntmps20
    go_upto_region 1 with fail
    rw [← hW]
    clear hW
    cases n1 <;> cases n2 <;> first | exact absurd rfl hn | skip
    all_goals clear hn
    · go_wp2_with fail
      go_ret
      exact ⟨false, rfl, by simp, HB0.out⟩
    · go_wp2_with fail
      go_ret
      exact ⟨false, rfl, by simp, HB0.out⟩

set_option maxRecDepth 100000 in
set_option maxHeartbeats 2000000 in
theorem Made_c (w : World) (va vb : Value) (n d : Nat) (neg : Bool) (h : Sl w va (limbs n)) (k : Sl w vb (limbs d)) (hd : 0 < d)
    (ha : (limbs n).length ≤ 400000) (hb : (limbs d).length ≤ 400000) :
    Calls Try.prog 59 #[.bool neg, va, vb] w (RetF w (made neg n d)) := by
  have W1 := (Below.refl w.heap.size w).alloc (Nat.le_refl _) (.cells #[.bool false, .slice none 0 0, .slice none 0 0] 30)
  have g1 := h.alloc (.cells #[.bool false, .slice none 0 0, .slice none 0 0] 30)
  have g2 := k.alloc (.cells #[.bool false, .slice none 0 0, .slice none 0 0] 30)
  have hgp : 0 < Nat.gcd n d := Nat.gcd_pos_of_pos_right _ hd
  have hgl : (limbs (Nat.gcd n d)).length ≤ 400000 := Nat.le_trans (limbs_len_mono (Nat.gcd_le_right _ hd)) hb
  have H1 := Lib.hid g1
  have H2 := Lib.hid g2
  have HM : Hid (made neg n d = if 32 < (limbs (n / Nat.gcd n d)).length ∨ 32 < (limbs (d / Nat.gcd n d)).length then (F0, 3)
      else (fr (neg && decide (0 < n / Nat.gcd n d)) (n / Nat.gcd n d) (d / Nat.gcd n d), 0)) := by unfold made; congr
  clear h k g1 g2
  go_enter Try.func59, Try.ntmps59
  go_wp2_with fail
  refine (Gcd_c _ _ _ _ _ H1.out H2.out ha hb).mono ?_
  rintro e w1 ⟨vg, rfl, hg, hb1⟩
  have K1 := Lib.hid (H1.out.after hb1)
  have K2 := Lib.hid (H2.out.after hb1)
  have HG := Lib.hid hg
  have HB1 := Lib.hid hb1
  clear H1 H2 hg hb1
  generalize hgg : Nat.gcd n d = g at *
  clear hgg
  go_wp2_with fail
  refine (Quotient_c _ _ _ _ _ K1.out HG.out hgp ha hgl).mono ?_
  rintro e w2 ⟨v1, v2, rfl, hv1, hv2, hb2⟩
  have K3 := Lib.hid (K2.out.after hb2)
  have HG2 := Lib.hid (HG.out.after hb2)
  have HB2 := Lib.hid hb2
  obtain ⟨p, cp, rfl, hp1, hp2⟩ := hv1.shape
  have HV1 := Lib.hid hv1
  clear K1 K2 HG hv1 hv2 hb2
  go_wp2_with fail
  refine (Quotient_c _ _ _ _ _ K3.out HG2.out hgp hb hgl).mono ?_
  rintro e w3 ⟨v3, v4, rfl, hv3, hv4, hb3⟩
  obtain ⟨q, cq, rfl, hq1, hq2⟩ := hv3.shape
  have HV2 := Lib.hid (HV1.out.after hb3)
  have HV3 := Lib.hid hv3
  have HB3 := Lib.hid hb3
  clear K3 HG2 HV1 hv3 hv4 hb3
  generalize hx : n / g = x at *
  generalize hy : d / g = y at *
  clear hx hy
  have hw3 : Below (w.heap.size + 1) (w.alloc (.cells #[.bool false, .slice none 0 0, .slice none 0 0] 30)) w3 := by
    have s1 := HB1.out.size
    have s2 := HB2.out.size
    simp only [World.size_alloc] at s1
    have := (HB1.out.mono (by simp)).trans ((HB2.out.mono s1).trans (HB3.out.mono (Nat.le_trans s1 s2)))
    exact this
  have hbx := (Box.new w #[.bool false, .slice none 0 0, .slice none 0 0] 30).after (w' := w3) (by simpa using hw3)
  have r0 := hbx.cell 0
  have r1 := hbx.cell 1
  have r2 := hbx.cell 2
  have f0 := hbx.frozen 0
  have f1 := hbx.frozen 1
  have f2 := hbx.frozen 2
  have HW3 := Lib.hid hw3
  have HBX := Lib.hid hbx
  have hrl : w.heap.size < w3.heap.size := hbx.lt
  simp only [List.getElem?_toArray, List.getElem?_cons_zero, List.getElem?_cons_succ] at r0 r1 r2
  have hbw : Below w.heap.size w w3 := W1.trans (HW3.out.mono (by omega))
  clear hw3 hbx HB1 HB2 HB3
  by_cases hx1 : 32 < (limbs x).length
  · have HG : Hid (32 < (limbs x).length ∨ 32 < (limbs y).length) := .inl hx1
    go_wp2_with fail
    refine bodyPost_ret (v := .tuple #[.agg #[.bool false, .slice none 0 0, .slice none 0 0], .int .i64 3]) (by simp [results, Try.results59, go_sem, r0, r1, r2]) rfl ?_
    rw [HM.out, if_pos HG.out]
    exact ⟨_, rfl, IsF.zero _, ((hbw.setCell (Nat.le_refl _) _).setCell (Nat.le_refl _) _).setCell (Nat.le_refl _) _⟩
  · by_cases hy1 : 32 < (limbs y).length
    · have HG : Hid (32 < (limbs x).length ∨ 32 < (limbs y).length) := .inr hy1
      go_wp2_with fail
      refine bodyPost_ret (v := .tuple #[.agg #[.bool false, .slice none 0 0, .slice none 0 0], .int .i64 3]) (by simp [results, Try.results59, go_sem, r0, r1, r2]) rfl ?_
      rw [HM.out, if_pos HG.out]
      exact ⟨_, rfl, IsF.zero _, ((hbw.setCell (Nat.le_refl _) _).setCell (Nat.le_refl _) _).setCell (Nat.le_refl _) _⟩
    · have HG : Hid (¬ (32 < (limbs x).length ∨ 32 < (limbs y).length)) := by intro h; omega
      rcases Nat.lt_or_ge 0 x with hx0 | hx0
      · have hl := limbs_len_pos hx0
        cases neg with
        | true =>
          go_wp2_with fail
          refine bodyPost_ret (v := .tuple #[.agg #[.bool true, .slice p (limbs x).length cp, .slice q (limbs y).length cq], .int .i64 0]) (by simp [results, Try.results59, go_sem, r0, r1, r2]) rfl ?_
          rw [HM.out, if_neg HG.out, show (true && decide (0 < x)) = true from by simp [hx0]]
          exact ⟨_, rfl, IsF.result HBX.out (fun _ h => by cases h) (fun _ h => by cases h) HV2.out HV3.out, ((hbw.setCell (Nat.le_refl _) _).setCell (Nat.le_refl _) _).setCell (Nat.le_refl _) _⟩
        | false =>
          go_wp2_with fail
          refine bodyPost_ret (v := .tuple #[.agg #[.bool false, .slice p (limbs x).length cp, .slice q (limbs y).length cq], .int .i64 0]) (by simp [results, Try.results59, go_sem, r0, r1, r2]) rfl ?_
          rw [HM.out, if_neg HG.out, Bool.false_and]
          exact ⟨_, rfl, IsF.result HBX.out (fun _ h => by cases h) (fun _ h => by cases h) HV2.out HV3.out, ((hbw.setCell (Nat.le_refl _) _).setCell (Nat.le_refl _) _).setCell (Nat.le_refl _) _⟩
      · obtain rfl : x = 0 := by omega
        have HV2' : Hid (Sl w3 (.slice p 0 cp) (limbs 0)) := by have := HV2.out; rwa [show (limbs 0).length = 0 from by rw [limbs_zero]; rfl] at this
        clear HV2
        simp only [limbs_zero, List.length_nil]
        cases neg with
        | true =>
          go_wp2_with fail
          refine bodyPost_ret (v := .tuple #[.agg #[.bool false, .slice p 0 cp, .slice q (limbs y).length cq], .int .i64 0]) (by simp [results, Try.results59, go_sem, r0, r1, r2]) rfl ?_
          rw [HM.out, if_neg HG.out, show (true && decide (0 < 0)) = false from rfl]
          exact ⟨_, rfl, IsF.result HBX.out (fun _ h => by cases h) (fun _ h => by cases h) HV2'.out HV3.out, ((hbw.setCell (Nat.le_refl _) _).setCell (Nat.le_refl _) _).setCell (Nat.le_refl _) _⟩
        | false =>
          go_wp2_with fail
          refine bodyPost_ret (v := .tuple #[.agg #[.bool false, .slice p 0 cp, .slice q (limbs y).length cq], .int .i64 0]) (by simp [results, Try.results59, go_sem, r0, r1, r2]) rfl ?_
          rw [HM.out, if_neg HG.out, Bool.false_and]
          exact ⟨_, rfl, IsF.result HBX.out (fun _ h => by cases h) (fun _ h => by cases h) HV2'.out HV3.out, ((hbw.setCell (Nat.le_refl _) _).setCell (Nat.le_refl _) _).setCell (Nat.le_refl _) _⟩

set_option maxHeartbeats 400000 in
theorem Rsize_c (w : World) (n : Int) (h0 : -9223372036854775808 ≤ n) (h1 : n ≤ 9223372036854775807) :
    Calls Try.prog 61 #[.int .i64 n] w fun e w' => e = .returned (.int .u64 (n.natAbs : Int)) ∧ w' = w := by
  rcases Int.lt_or_le n 0 with hn | hn
  · go_enter Try.func61, Try.ntmps61
    go_wp2
    go_ret
    refine ⟨ret_int ?_, rfl⟩
    simp only [IntKind.wrap_u64]; omega
  · go_enter Try.func61, Try.ntmps61
    go_wp2
    go_ret
    refine ⟨ret_int ?_, rfl⟩
    omega
end Go.Proofs.Ytjjefdkadgkhfaa

namespace Go.Proofs.Ytjjefdkadgkhfaa
open Go.RowKit

set_option maxRecDepth 100000 in
set_option maxHeartbeats 1000000 in
theorem ROf_c (w : World) (n d : Int) (h0 : -9223372036854775808 ≤ n) (h1 : n ≤ 9223372036854775807) (k0 : -9223372036854775808 ≤ d) (k1 : d ≤ 9223372036854775807) :
    Calls Try.prog 36 #[.int .i64 n, .int .i64 d] w (RetF w (ofF n d)) := by
  by_cases hd : d = 0
  · subst hd
    go_enter Try.func36, Try.ntmps36
    go_wp2_with fail
    refine bodyPost_ret (v := .tuple #[.agg #[.bool false, .slice none 0 0, .slice none 0 0], .int .i64 2]) (by simp [results, Try.results36, go_sem]) rfl ?_
    exact ⟨_, rfl, IsF.zero _, (Below.refl _ w).alloc (Nat.le_refl _) _⟩
  · have hne : (d == 0) = false := beq_eq_false_iff_ne.2 hd
    have hof : Hid (ofF n d = made (!(decide (n < 0) == decide (d < 0))) n.natAbs d.natAbs) := by show ofF n d = _; unfold ofF; rw [if_neg hd]
    have hdp : 0 < d.natAbs := by omega
    have hl1 : Hid (∀ m : Nat, m ≤ 9223372036854775808 → (limbs m).length ≤ 400000) := fun m hm => by
      have := limbs_len_lt (n := m) (k := 2) (by omega)
      omega
    have br := Box.new w #[.bool false, .slice none 0 0, .slice none 0 0] 30
    have BR := Lib.hid br
    clear hd br
    go_enter Try.func36, Try.ntmps36
    go_wp2_with fail
    refine (Rsize_c _ n h0 h1).mono ?_
    rintro e w' ⟨rfl, rfl⟩
    go_wp2_with fail
    refine (From_c n.natAbs (by omega) _).mono ?_
    rintro e w1 ⟨v1, rfl, hv1, hb1⟩
    have HV1 := Lib.hid hv1
    have HB1 := Lib.hid hb1
    clear hv1 hb1
    go_wp2_with fail
    refine (Rsize_c _ d k0 k1).mono ?_
    rintro e w' ⟨rfl, rfl⟩
    go_wp2_with fail
    refine (From_c d.natAbs (by omega) _).mono ?_
    rintro e w2 ⟨v2, rfl, hv2, hb2⟩
    have HV1' := Lib.hid (HV1.out.after hb2)
    have HV2 := Lib.hid hv2
    have hb12 := HB1.out.trans (hb2.mono HB1.out.size)
    have BX2 := Lib.hid (BR.out.after hb12)
    have BW := Lib.hid (((Below.refl w.heap.size w).alloc (Nat.le_refl _) (.cells #[.bool false, .slice none 0 0, .slice none 0 0] 30)).trans (hb12.mono (by simp)))
    clear HV1 HB1 hv2 hb2 hb12 BR
    go_wp2_with fail
    refine (Made_c w2 v1 v2 n.natAbs d.natAbs (!(decide (n < 0) == decide (d < 0))) HV1'.out HV2.out hdp (hl1.out _ (by omega)) (hl1.out _ (by omega))).mono ?_
    rw [← hof.out]
    rintro e w3 ⟨v3, rfl, hv3, hb3⟩
    obtain ⟨va, vb, rfl, hva, hvb⟩ := hv3
    have bx3 := BX2.out.after hb3
    obtain ⟨p, cp, rfl, hp1, hp2⟩ := hva.shape
    obtain ⟨q, cq, rfl, hq1, hq2⟩ := hvb.shape
    have bw := BW.out.trans (hb3.mono BW.out.size)
    obtain ⟨r0, r1, r2⟩ := bx3.cells3
    have f0 := bx3.frozen 0
    have f1 := bx3.frozen 1
    have f2 := bx3.frozen 2
    generalize hof2 : ofF n d = o at *
    obtain ⟨⟨neg, A, B⟩, er⟩ := o
    have HVA := Lib.hid hva
    have HVB := Lib.hid hvb
    have BX3 := Lib.hid bx3
    have BW3 := Lib.hid bw
    clear hva hvb bx3 bw hb3 BX2 BW hof hof2
    simp only at HVA HVB
    go_wp2_with fail
    refine bodyPost_ret (v := .tuple #[.agg #[.bool neg, .slice p A.length cp, .slice q B.length cq], .int .i64 er]) (by simp [results, Try.results36, go_sem, r0, r1, r2]) rfl ?_
    exact ⟨_, rfl, IsF.result BX3.out (fun _ h => by cases h) (fun _ h => by cases h) HVA.out HVB.out, ((BW3.out.setCell (Nat.le_refl _) _).setCell (Nat.le_refl _) _).setCell (Nat.le_refl _) _⟩
end Go.Proofs.Ytjjefdkadgkhfaa
