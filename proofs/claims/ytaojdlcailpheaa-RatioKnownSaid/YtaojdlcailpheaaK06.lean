/- Walks: sum, Add, Sub.
   Walks of package ratio: the number of decimal digits.
   Numbers as decimal digits, the least first. No program in sight.
   Plain: what Read returns. No program in sight but the words of digits.
   Memory words, more: rows of fractions. -/
import Derived.Test.YtaojdlcailpheaaK05
import Derived.Deep.DeepCutAuto
import Derived.Test.YtaojdlcailpheaaK01
import Derived.Lib.Strings
import Derived.Lib.Bytealg
set_option linter.unusedVariables false
namespace Go.Proofs.Ytaojdlcailpheaa
open Go.RowKit

theorem below_of_drew {W w : World} (h : Below W.drew.heap.size W.drew w) : Below W.heap.size W w := ⟨h.os, h.tape, h.output, h.size, h.block⟩
theorem below_of_drewN {W w : World} {n : Nat} (h : Below (W.drewN n).heap.size (W.drewN n) w) : Below W.heap.size W w := ⟨h.os, h.tape, h.output, h.size, h.block⟩
theorem times_n (w : World) (va vb : Value) (a b : Nat) (h : Sl w va (limbs a)) (k : Sl w vb (limbs b)) (ha : (limbs a).length ≤ 1000000) (hb : (limbs b).length ≤ 1000000) :
    Calls Try.prog 68 #[va, vb] w (RetNat w (a * b)) := by
  have := times_c w va vb _ _ h k ha hb; rwa [val_limbs, val_limbs] at this
theorem plus_n (w : World) (va vb : Value) (a b : Nat) (h : Sl w va (limbs a)) (k : Sl w vb (limbs b)) (ha : (limbs a).length ≤ 1000000) (hb : (limbs b).length ≤ 1000000) :
    Calls Try.prog 75 #[va, vb] w (RetNat w (a + b)) := by
  have := plus_c w va vb _ _ h k ha hb; rwa [val_limbs, val_limbs] at this
theorem minus_n (w : World) (va vb : Value) (a b : Nat) (h : Sl w va (limbs a)) (k : Sl w vb (limbs b)) (hle : b ≤ a) (ha : (limbs a).length ≤ 1000000) :
    Calls Try.prog 87 #[va, vb] w (RetNat w (a - b)) := by
  have := minus_c w va vb _ _ h k (limbs_len_mono hle) (by rw [val_limbs, val_limbs]; exact hle) ha; rwa [val_limbs, val_limbs] at this

/-- The sum of two fractions, by numbers. -/
noncomputable def sumN (n1 : Bool) (a b : Nat) (n2 : Bool) (c d : Nat) : F × Int :=
  if n1 = n2 then made n1 (a * d + c * b) (b * d) else if a * d < c * b then made n2 (c * b - a * d) (b * d) else made n1 (a * d - c * b) (b * d)

set_option maxRecDepth 100000 in
set_option maxHeartbeats 1000000 in
theorem sum_c (w : World) (v u : Value) (n1 n2 : Bool) (a b c d : Nat) (h : IsF w v (fr n1 a b)) (k : IsF w u (fr n2 c d)) (hb : 0 < b) (hd : 0 < d)
    (la : (limbs a).length ≤ 1000) (lb : (limbs b).length ≤ 1000) (lc : (limbs c).length ≤ 1000) (ld : (limbs d).length ≤ 1000) :
    Calls Try.prog 66 #[v, u] w (RetF w (sumN n1 a b n2 c d)) := by
  obtain ⟨va, vb, rfl, ha', hb'⟩ := h
  obtain ⟨vc, vd, rfl, hc', hd'⟩ := k
  simp only [fr] at ha' hb' hc' hd'
  simp only [fr]
  obtain ⟨W0, hW, bx, by', br, hsz, hb0⟩ := start3 w #[.bool n1, va, vb] #[.bool n2, vc, vd] #[.bool false, .slice none 0 0, .slice none 0 0] 25
  obtain ⟨c0, c1, c2⟩ := bx.cells3
  obtain ⟨d0, d1, d2⟩ := by'.cells3
  have H1 := Lib.hid (ha'.after hb0)
  have H2 := Lib.hid (hb'.after hb0)
  have H3 := Lib.hid (hc'.after hb0)
  have H4 := Lib.hid (hd'.after hb0)
  have HB0 := Lib.hid hb0
  have BX := Lib.hid bx
  have BY := Lib.hid by'
  have BR := Lib.hid br
  have l1 : Hid ((limbs (a * d)).length ≤ 2000) := Nat.le_trans (limbs_mul_len a d) (by omega)
  have l2 : Hid ((limbs (c * b)).length ≤ 2000) := Nat.le_trans (limbs_mul_len c b) (by omega)
  have l3 : Hid ((limbs (b * d)).length ≤ 2000) := Nat.le_trans (limbs_mul_len b d) (by omega)
  clear ha' hb' hc' hd' bx by' br hb0
  go_enter Try.func66, Try.ntmps66
  go_upto_region 1 with fail
  rw [← hW]
  clear hW
  go_region_held3 (fun w' => w'.cell? ⟨w.heap.size, 1, none⟩ = some va ∧ w'.cell? ⟨w.heap.size + 1, 2, none⟩ = some vd ∧ w'.cell? ⟨w.heap.size + 1, 1, none⟩ = some vc ∧ w'.cell? ⟨w.heap.size, 2, none⟩ = some vb)
    (first
     | go_keep
     | (exact ⟨keep_cell hb1 c1, keep_cell hb1 d2, keep_cell hb1 d1, keep_cell hb1 c2⟩)
     | (exact ⟨keep_cell hb2 (keep_cell hb1 c1), keep_cell hb2 (keep_cell hb1 d2), keep_cell hb2 (keep_cell hb1 d1), keep_cell hb2 (keep_cell hb1 c2)⟩))
    (first
     | (go_at_call_of 68 va; refine (times_n _ va vd a d ?_ ?_ ?_ ?_).mono ?_; exact H1.out; exact H4.out; omega; omega; rintro e w1 ⟨vp, rfl, hp, hb1⟩)
     | (go_at_call_of 68 vc; refine (times_n _ vc vb c b ?_ ?_ ?_ ?_).mono ?_; exact Sl.after (w := W0.drew) H3.out hb1; exact Sl.after (w := W0.drew) H2.out hb1; omega; omega; rintro e w2 ⟨vq, rfl, hq, hb2⟩))
  have hbW : Below W0.heap.size W0 w2 := below_of_drew (hb1.trans (hb2.mono hb1.size))
  have K1 := Lib.hid (Sl.after hp hb2)
  have K2 := Lib.hid hq
  have K3 := Lib.hid (H2.out.after hbW)
  have K4 := Lib.hid (H4.out.after hbW)
  have KW := Lib.hid hbW
  have x0 := keep_cell hbW c0
  have x1 := keep_cell hbW c1
  have x2 := keep_cell hbW c2
  have y0 := keep_cell hbW d0
  have y1 := keep_cell hbW d1
  have y2 := keep_cell hbW d2
  clear hp hq hb1 hb2 hbW H1 H2 H3 H4 c0 c1 c2 d0 d1 d2
  go_wp2_with fail
  refine (times_n _ vb vd b d K3.out K4.out (by omega) (by omega)).mono ?_
  rintro e w3 ⟨vr, rfl, hr, hb3⟩
  have L1 := Lib.hid (K1.out.after hb3)
  have L2 := Lib.hid (K2.out.after hb3)
  have L3 := Lib.hid hr
  have LW := Lib.hid (KW.out.trans (hb3.mono KW.out.size))
  have z0 := keep_cell hb3 x0
  have z3 := keep_cell hb3 y0
  clear hr hb3 K1 K2 K3 K4 KW x0 x1 x2 y0 y1 y2
  have hsum : Hid (sumN n1 a b n2 c d = if n1 = n2 then made n1 (a * d + c * b) (b * d) else if a * d < c * b then made n2 (c * b - a * d) (b * d) else made n1 (a * d - c * b) (b * d)) := rfl
  have hbd : 0 < b * d := Nat.mul_pos hb hd
  generalize a * d = ad at *
  generalize c * b = cb at *
  generalize b * d = bd at *
  by_cases hn : n1 = n2
  · have hs : Hid (sumN n1 a b n2 c d = made n1 (ad + cb) bd) := by show _ = _; rw [hsum.out, if_pos hn]
    subst hn
    clear hsum
    go_wp2_with fail
    refine (reduced_c _ _).mono ?_
    rintro e w' ⟨rfl, rfl⟩
    go_wp2_with fail
    refine (plus_n _ vp vq ad cb (L1.out.alloc _) (L2.out.alloc _) (by have := l1.out; omega) (by have := l2.out; omega)).mono ?_
    rintro e w4 ⟨vs, rfl, hs4, hb4⟩
    have hcap := keep_cell hb4 (b := w3.heap.size) (o := 0) (v := .bool n1) (by simp)
    have hcs := hs4.shape
    have M3 := Lib.hid ((L3.out.alloc (.cells #[.bool n1] 4)).after hb4)
    have M1 := Lib.hid hs4
    have hw4 : Below W0.heap.size W0 w4 := (LW.out.alloc LW.out.size _).trans (hb4.mono (by have := LW.out.size; simp; omega))
    have MW := Lib.hid hw4
    have HCAP := Lib.hid hcap
    clear hs4 hb4 hcap hw4 hcs
    go_wp2_with fail
    refine (reduced1_c w4 vs vr (ad + cb) bd w3.heap.size n1 M1.out M3.out hbd HCAP.out (by have := limbs_add_len ad cb; have := l1.out; have := l2.out; omega) (by have := l3.out; omega)).mono ?_
    rw [← hs.out]
    rintro e w5 ⟨v5, rfl, hv5, hb5⟩
    obtain ⟨va5, vb5, rfl, h51, h52⟩ := hv5
    have bx5 := BR.out.after (MW.out.trans (hb5.mono MW.out.size))
    obtain ⟨p, cp, rfl, hp1, hp2⟩ := h51.shape
    obtain ⟨q, cq, rfl, hq1, hq2⟩ := h52.shape
    obtain ⟨r0, r1, r2⟩ := bx5.cells3
    have f0 := bx5.frozen 0
    have f1 := bx5.frozen 1
    have f2 := bx5.frozen 2
    have bw5 := HB0.out.trans ((MW.out.trans (hb5.mono MW.out.size)).mono HB0.out.size)
    generalize hof2 : sumN n1 a b n1 c d = o at *
    obtain ⟨⟨neg, A, B⟩, er⟩ := o
    have HVA := Lib.hid h51
    have HVB := Lib.hid h52
    have BX5 := Lib.hid bx5
    have BW5 := Lib.hid bw5
    clear h51 h52 bx5 bw5 hb5 M1 M3 MW HCAP hs hof2
    simp only at HVA HVB
    go_wp2_with fail
    refine bodyPost_ret (v := .tuple #[.agg #[.bool neg, .slice p A.length cp, .slice q B.length cq], .int .i64 er]) (by simp [results, Try.results66, go_sem, r0, r1, r2]) rfl ?_
    exact ⟨_, rfl, IsF.result BX5.out (fun _ h => by cases h) (fun _ h => by cases h) HVA.out HVB.out, ((BW5.out.setCell (p := ⟨w.heap.size + 2, 0, none⟩) (by simp) _).setCell (p := ⟨w.heap.size + 2, 1, none⟩) (by simp) _).setCell (p := ⟨w.heap.size + 2, 2, none⟩) (by simp) _⟩
  · have hnb : (n1 == n2) = false := by simpa using hn
    go_wp2_with fail
    refine (compare_c _ _ _ _ _ L1.out L2.out).mono ?_
    rintro e w' ⟨r, rfl, hr, nk, rfl⟩
    obtain ⟨w3', hw3'⟩ : ∃ w3', w3' = w3.drewN nk := ⟨_, rfl⟩
    have z0' : w3'.cell? ⟨w.heap.size, 0, none⟩ = some (.bool n1) := by rw [hw3']; exact z0
    have z3' : w3'.cell? ⟨w.heap.size + 1, 0, none⟩ = some (.bool n2) := by rw [hw3']; exact z3
    have L1' : Hid (Sl w3' vp (limbs ad)) := by rw [hw3']; exact L1.out.drewN nk
    have L2' : Hid (Sl w3' vq (limbs cb)) := by rw [hw3']; exact L2.out.drewN nk
    have L3' : Hid (Sl w3' vr (limbs bd)) := by rw [hw3']; exact L3.out.drewN nk
    have LW' : Hid (Below W0.heap.size W0 w3') := by rw [hw3']; exact LW.out.trans (below_drewN _ _ _)
    rw [← hw3']
    have hrlt := hr.lt
    clear hw3' L1 L2 L3 LW z0 z3 hr
    by_cases hlt : ad < cb
    · have hs : Hid (sumN n1 a b n2 c d = made n2 (cb - ad) bd) := by show _ = _; rw [hsum.out, if_neg hn, if_pos hlt]
      have hr' : r < 0 := hrlt.2 hlt
      clear hsum hrlt
      go_wp2_with fail
      refine (reduced_c _ _).mono ?_
      rintro e w' ⟨rfl, rfl⟩
      go_wp2_with fail
      refine (minus_n _ vq vp cb ad (L2'.out.alloc _) (L1'.out.alloc _) (Nat.le_of_lt hlt) (by have := l2.out; omega)).mono ?_
      rintro e w4 ⟨vs, rfl, hs4, hb4⟩
      have hcap := keep_cell hb4 (b := w3'.heap.size) (o := 0) (v := .bool n2) (by simp)
      have hcs := hs4.shape
      have M3 := Lib.hid ((L3'.out.alloc (.cells #[.bool n2] 4)).after hb4)
      have M1 := Lib.hid hs4
      have hw4 : Below W0.heap.size W0 w4 := (LW'.out.alloc LW'.out.size _).trans (hb4.mono (by have := LW'.out.size; simp; omega))
      have MW := Lib.hid hw4
      have HCAP := Lib.hid hcap
      clear hs4 hb4 hcap hw4 hcs
      go_wp2_with fail
      refine (reduced1_c w4 vs vr (cb - ad) bd w3'.heap.size n2 M1.out M3.out hbd HCAP.out (by have := limbs_len_mono (Nat.sub_le cb ad); have := l2.out; omega) (by have := l3.out; omega)).mono ?_
      rw [← hs.out]
      rintro e w5 ⟨v5, rfl, hv5, hb5⟩
      obtain ⟨va5, vb5, rfl, h51, h52⟩ := hv5
      have bx5 := BR.out.after (MW.out.trans (hb5.mono MW.out.size))
      obtain ⟨p, cp, rfl, hp1, hp2⟩ := h51.shape
      obtain ⟨q, cq, rfl, hq1, hq2⟩ := h52.shape
      obtain ⟨r0, r1, r2⟩ := bx5.cells3
      have f0 := bx5.frozen 0
      have f1 := bx5.frozen 1
      have f2 := bx5.frozen 2
      have bw5 := HB0.out.trans ((MW.out.trans (hb5.mono MW.out.size)).mono HB0.out.size)
      generalize hof2 : sumN n1 a b n2 c d = o at *
      obtain ⟨⟨neg, A, B⟩, er⟩ := o
      have HVA := Lib.hid h51
      have HVB := Lib.hid h52
      have BX5 := Lib.hid bx5
      have BW5 := Lib.hid bw5
      clear h51 h52 bx5 bw5 hb5 M1 M3 MW HCAP hs hof2
      simp only at HVA HVB
      go_wp2_with fail
      refine bodyPost_ret (v := .tuple #[.agg #[.bool neg, .slice p A.length cp, .slice q B.length cq], .int .i64 er]) (by simp [results, Try.results66, go_sem, r0, r1, r2]) rfl ?_
      exact ⟨_, rfl, IsF.result BX5.out (fun _ h => by cases h) (fun _ h => by cases h) HVA.out HVB.out, ((BW5.out.setCell (p := ⟨w.heap.size + 2, 0, none⟩) (by simp) _).setCell (p := ⟨w.heap.size + 2, 1, none⟩) (by simp) _).setCell (p := ⟨w.heap.size + 2, 2, none⟩) (by simp) _⟩
    · have hs : Hid (sumN n1 a b n2 c d = made n1 (ad - cb) bd) := by show _ = _; rw [hsum.out, if_neg hn, if_neg hlt]
      have hr' : ¬ r < 0 := fun h => hlt (hrlt.1 h)
      clear hsum hrlt
      go_wp2_with fail
      refine (reduced_c _ _).mono ?_
      rintro e w' ⟨rfl, rfl⟩
      go_wp2_with fail
      refine (minus_n _ vp vq ad cb (L1'.out.alloc _) (L2'.out.alloc _) (Nat.le_of_not_lt hlt) (by have := l1.out; omega)).mono ?_
      rintro e w4 ⟨vs, rfl, hs4, hb4⟩
      have hcap := keep_cell hb4 (b := w3'.heap.size) (o := 0) (v := .bool n1) (by simp)
      have hcs := hs4.shape
      have M3 := Lib.hid ((L3'.out.alloc (.cells #[.bool n1] 4)).after hb4)
      have M1 := Lib.hid hs4
      have hw4 : Below W0.heap.size W0 w4 := (LW'.out.alloc LW'.out.size _).trans (hb4.mono (by have := LW'.out.size; simp; omega))
      have MW := Lib.hid hw4
      have HCAP := Lib.hid hcap
      clear hs4 hb4 hcap hw4 hcs
      go_wp2_with fail
      refine (reduced1_c w4 vs vr (ad - cb) bd w3'.heap.size n1 M1.out M3.out hbd HCAP.out (by have := limbs_len_mono (Nat.sub_le ad cb); have := l1.out; omega) (by have := l3.out; omega)).mono ?_
      rw [← hs.out]
      rintro e w5 ⟨v5, rfl, hv5, hb5⟩
      obtain ⟨va5, vb5, rfl, h51, h52⟩ := hv5
      have bx5 := BR.out.after (MW.out.trans (hb5.mono MW.out.size))
      obtain ⟨p, cp, rfl, hp1, hp2⟩ := h51.shape
      obtain ⟨q, cq, rfl, hq1, hq2⟩ := h52.shape
      obtain ⟨r0, r1, r2⟩ := bx5.cells3
      have f0 := bx5.frozen 0
      have f1 := bx5.frozen 1
      have f2 := bx5.frozen 2
      have bw5 := HB0.out.trans ((MW.out.trans (hb5.mono MW.out.size)).mono HB0.out.size)
      generalize hof2 : sumN n1 a b n2 c d = o at *
      obtain ⟨⟨neg, A, B⟩, er⟩ := o
      have HVA := Lib.hid h51
      have HVB := Lib.hid h52
      have BX5 := Lib.hid bx5
      have BW5 := Lib.hid bw5
      clear h51 h52 bx5 bw5 hb5 M1 M3 MW HCAP hs hof2
      simp only at HVA HVB
      go_wp2_with fail
      refine bodyPost_ret (v := .tuple #[.agg #[.bool neg, .slice p A.length cp, .slice q B.length cq], .int .i64 er]) (by simp [results, Try.results66, go_sem, r0, r1, r2]) rfl ?_
      exact ⟨_, rfl, IsF.result BX5.out (fun _ h => by cases h) (fun _ h => by cases h) HVA.out HVB.out, ((BW5.out.setCell (p := ⟨w.heap.size + 2, 0, none⟩) (by simp) _).setCell (p := ⟨w.heap.size + 2, 1, none⟩) (by simp) _).setCell (p := ⟨w.heap.size + 2, 2, none⟩) (by simp) _⟩
end Go.Proofs.Ytaojdlcailpheaa

namespace Go.Proofs.Ytaojdlcailpheaa
open Go.RowKit

/-- The number that a text is, if it has digits only, and never more than 32 limbs ahead of a digit. -/
def digN : Nat → List UInt8 → Option Nat
  | a, [] => some a
  | a, c :: l => if (48 ≤ c.toNat ∧ c.toNat ≤ 57) ∧ (limbs a).length ≤ 32 then digN (10 * a + (c.toNat - 48)) l else none
/-- What digits returns. -/
def RetDg (w : World) (l : List UInt8) (e : Ending) (w' : World) : Prop := ∃ v, e = .returned (.tuple #[v, .bool (decide (digN 0 l ≠ none ∧ l ≠ []))]) ∧ Sl w' v (limbs ((digN 0 l).getD 0)) ∧ Below w.heap.size w w'
theorem digN_next {a : Nat} {l : List UInt8} {k : Nat} (h : k < l.length) (hd : 48 ≤ l[k].toNat ∧ l[k].toNat ≤ 57) (ha : (limbs a).length ≤ 32) : digN a (l.drop k) = digN (10 * a + (l[k].toNat - 48)) (l.drop (k + 1)) := by
  rw [List.drop_eq_getElem_cons h, digN, if_pos ⟨hd, ha⟩]
theorem digN_stop {a : Nat} {l : List UInt8} {k : Nat} (h : k < l.length) (hd : ¬ ((48 ≤ l[k].toNat ∧ l[k].toNat ≤ 57) ∧ (limbs a).length ≤ 32)) : digN a (l.drop k) = none := by
  rw [List.drop_eq_getElem_cons h, digN, if_neg hd]
theorem limbs_ten : limbs 10 = [10] := limbs_small (by omega) (by omega)
theorem dig_len {a d : Nat} (ha : (limbs a).length ≤ 32) (hd : d ≤ 9) : (limbs (10 * a + d)).length ≤ 34 := by
  have h1 := limbs_mul_len 10 a
  have h2 := limbs_add_len (10 * a) d
  have h3 : (limbs d).length ≤ 1 := limbs_len_lt (by omega)
  rw [limbs_ten] at h1
  simp only [List.length_cons, List.length_nil] at h1
  omega
set_option maxRecDepth 100000 in
set_option maxHeartbeats 4000000 in
theorem digits_c (l : List UInt8) (w : World) (hl : l.length ≤ 9223372036854775807) : Calls Try.prog 55 #[.string ⟨l.toArray⟩] w (RetDg w l) := by
  have hs : (⟨l.toArray⟩ : ByteArray).size = l.length := rfl
  obtain ⟨R, hR⟩ : ∃ R, digN 0 l = R := ⟨_, rfl⟩
  unfold RetDg
  rw [hR]
  have HR0 : Hid (digN 0 (l.drop 0) = R) := hR
  clear hR
  go_enter Try.func55, Try.ntmps55
  go_wp2_with fail
  go_loopg [4, 9] (l.length) (fun g v t wx => ∃ (k a : Nat), k ≤ l.length ∧ g = l.length - k ∧ t = .int .i64 (k : Int) ∧ (limbs a).length ≤ 34 ∧ Hid (Sl wx v (limbs a)) ∧ Hid (digN a (l.drop k) = R) ∧ Hid (Below w.heap.size w wx))
  case atStart => exact ⟨0, 0, Nat.zero_le _, rfl, rfl, by rw [limbs_zero]; simp, by show Sl _ _ _; rw [limbs_zero]; exact Sl.nil _, HR0.out, Below.refl _ _⟩
  case round =>
    obtain ⟨k, a, hk, rfl, rfl, ha, hsl, hr, hb⟩ := hrel
    clear HR0
    obtain ⟨p, c, rfl, h1, h2⟩ := hsl.out.shape
    by_cases hlt : k < l.length
    · obtain ⟨q, hq⟩ : ∃ q, ((⟨l.toArray⟩ : ByteArray)[k]'hlt).toNat = q := ⟨_, rfl⟩
      have hq' : l[k].toNat = q := hq
      have hq256 : q < 256 := by rw [← hq]; exact UInt8.toNat_lt _
      by_cases hd : (48 ≤ q ∧ q ≤ 57) ∧ (limbs a).length ≤ 32
      · obtain ⟨⟨d1, d2⟩, d3⟩ := hd
        have hnx : Hid (digN (10 * a + (q - 48)) (l.drop (k + 1)) = R) := by
          have := hr.out
          rw [digN_next hlt (by rw [hq']; exact ⟨d1, d2⟩) d3, hq'] at this
          exact this
        have hln := dig_len d3 (show q - 48 ≤ 9 by omega)
        obtain ⟨r, hqr⟩ : ∃ r, q - 48 = r := ⟨_, rfl⟩
        rw [hqr] at hnx hln
        obtain rfl : q = r + 48 := by omega
        have hr9 : r ≤ 9 := by omega
        clear hqr hq' hr d1 d2 hq256
        go_wp2_with fail
        have hten : Sl (wr.alloc (.cells #[.int .u32 10] 51)) (.slice (some ⟨wr.heap.size, 0, none⟩) 1 1) (limbs 10) := by
          rw [limbs_ten]
          exact Sl.of_row (l := [10]) (Row32.lit1 wr 10 10 rfl) (Lb.cons (by omega) Lb.nil) (by simp) (by omega)
        refine (times_n _ _ _ a 10 (hsl.out.after ((Below.refl _ wr).alloc (Nat.le_refl _) _)) hten (by omega) (by rw [limbs_ten]; simp)).mono ?_
        rintro e w1 ⟨v1, rfl, hv1, hb1⟩
        obtain ⟨p1, c1, rfl, _, _⟩ := hv1.shape
        have HV1 := Lib.hid hv1
        have HB1 : Hid (Below w.heap.size w w1) := (hb.out.alloc hb.out.size _).trans (hb1.mono (hb.out.alloc hb.out.size _).size)
        clear hten hv1 hb1
        go_wp2_with fail
        refine (from_n _ r rfl (by omega) w1).mono ?_
        rintro e w2 ⟨v2, rfl, hv2, hb2⟩
        obtain ⟨p2, c2, rfl, _, _⟩ := hv2.shape
        have HV2 := Lib.hid hv2
        have HV1 := Lib.hid (HV1.out.after hb2)
        have HB2 := Lib.hid (HB1.out.trans (hb2.mono HB1.out.size))
        clear hv2 hb2
        go_wp2_with fail
        have hl1 : (limbs (a * 10)).length ≤ 1000000 := by
          have h1 := limbs_mul_len a 10
          rw [limbs_ten] at h1
          simp only [List.length_cons, List.length_nil] at h1
          omega
        have hl2 : (limbs r).length ≤ 1000000 := Nat.le_trans (limbs_len_lt (k := 1) (by omega)) (by omega)
        refine (plus_n w2 _ _ (a * 10) r HV1.out HV2.out hl1 hl2).mono ?_
        rintro e w3 ⟨v3, rfl, hv3, hb3⟩
        rw [Nat.mul_comm a 10] at hv3
        have HV3 := Lib.hid hv3
        have HB3 := Lib.hid (HB2.out.trans (hb3.mono HB2.out.size))
        clear hv3 hb3 hl1 hl2
        go_wp2_with fail
        go_roundg (l.length - (k + 1))
        case measure => omega
        case rel => exact ⟨k + 1, 10 * a + r, by omega, rfl, by go_num, hln, HV3.out, hnx.out, HB3.out⟩
      · have hnone : Hid (R = none) := by
          have := hr.out
          rw [digN_stop hlt (by rw [hq']; exact hd)] at this
          exact this.symm
        clear hr hq'
        by_cases hd2 : 48 ≤ q ∧ q ≤ 57
        · have hlong : decide (32 < ((limbs a).length : Int)) = true := decide_eq_true (by have := fun h => hd ⟨hd2, h⟩; omega)
          obtain ⟨r, hqr⟩ : ∃ r, q - 48 = r := ⟨_, rfl⟩
          obtain rfl : q = r + 48 := by omega
          have hr9 : r ≤ 9 := by omega
          clear hqr hd hd2
          go_wp2_with fail
          go_ret2
          rw [hnone.out]
          refine ⟨.slice none 0 0, by simp, ?_, hb.out⟩
          show Sl _ _ (limbs 0)
          rw [limbs_zero]; exact Sl.nil _
        · clear hd
          by_cases hlow : q < 48
          · have hwr : IntKind.u8.wrap ((q : Int) - 48) = (q : Int) + 208 := by rw [IntKind.wrap_u8]; omega
            have hgt : decide ((9 : Int) < (q : Int) + 208) = true := decide_eq_true (by omega)
            clear hd2
            go_wp2_with fail
            go_ret2
            rw [hnone.out]
            refine ⟨.slice none 0 0, by simp, ?_, hb.out⟩
            show Sl _ _ (limbs 0)
            rw [limbs_zero]; exact Sl.nil _
          · have hgt : decide ((9 : Int) < (q : Int) - 48) = true := decide_eq_true (by omega)
            clear hd2
            go_wp2_with fail
            go_ret2
            rw [hnone.out]
            refine ⟨.slice none 0 0, by simp, ?_, hb.out⟩
            show Sl _ _ (limbs 0)
            rw [limbs_zero]; exact Sl.nil _
    · obtain rfl : k = l.length := by omega
      have hz : Hid (R = some a) := by
        have := hr.out
        rw [List.drop_length] at this
        exact this.symm
      clear hr
      go_wp2_with fail
      go_ret2
      rw [hz.out]
      have he : decide (some a ≠ none ∧ l ≠ []) = !l.isEmpty := by cases l <;> simp
      rw [he]
      exact ⟨_, rfl, hsl.out, hb.out⟩
end Go.Proofs.Ytaojdlcailpheaa

namespace Go.Proofs.Ytaojdlcailpheaa

/-- The digits of a number as bytes, the least first; none for 0. -/
def revd (n : Nat) : List Nat := if n = 0 then [] else (48 + n % 10) :: revd (n / 10)
termination_by n
decreasing_by omega

theorem revd_zero : revd 0 = [] := by rw [revd]; simp
theorem revd_pos {n : Nat} (h : 0 < n) : revd n = (48 + n % 10) :: revd (n / 10) := by
  rw [revd, if_neg (by omega)]
theorem revd_lt : ∀ (n x : Nat), x ∈ revd n → 48 ≤ x ∧ x < 58 := by
  intro n
  induction n using Nat.strongRecOn with
  | _ n ih =>
    intro x hx
    rcases Nat.eq_zero_or_pos n with h | h
    · subst h; rw [revd_zero] at hx; cases hx
    · rw [revd_pos h] at hx
      rcases List.mem_cons.1 hx with rfl | h1
      · omega
      · exact ih (n / 10) (by omega) x h1
theorem revd_len : ∀ (k n : Nat), n < 10 ^ k → (revd n).length ≤ k
  | 0, n, h => by
    have : n = 0 := by simpa using h
    subst this; rw [revd_zero]; simp
  | k + 1, n, h => by
    rcases Nat.eq_zero_or_pos n with h0 | h0
    · subst h0; rw [revd_zero]; simp
    · rw [revd_pos h0]
      have := revd_len k (n / 10) (by rw [Nat.pow_succ] at h; omega)
      simp; omega
theorem revd_limbs {n : Nat} : (revd n).length ≤ 10 * (limbs n).length := by
  refine revd_len _ n (Nat.lt_of_lt_of_le (lt_limbs n) ?_)
  rw [Nat.pow_mul]
  exact Nat.pow_le_pow_left (by omega) _
/-- One digit more: of a' and the part d below 10 ^ (j + 1). -/
theorem revd_step {a d j : Nat} (h : 0 < a * 10 ^ (j + 1) + d) : revd (a * 10 ^ (j + 1) + d) = (48 + d % 10) :: revd (a * 10 ^ j + d / 10) := by
  rw [revd_pos h]
  have e : a * 10 ^ (j + 1) = 10 * (a * 10 ^ j) := by rw [Nat.pow_succ]; ac_rfl
  rw [e]
  congr 2
  · omega
  · congr 1; omega
/-- What decimal returns. -/
def decS (n : Nat) : ByteArray := if n = 0 then ⟨#[48]⟩ else ⟨((revd n).reverse.map UInt8.ofNat).toArray⟩
end Go.Proofs.Ytaojdlcailpheaa

namespace Go.Proofs.Ytaojdlcailpheaa
open Go.RowKit

/-- The string of some bytes. -/
def bs (l : List UInt8) : ByteArray := ⟨l.toArray⟩
theorem bs_list (l : List UInt8) : (bs l).data.toList = l := rfl
theorem bs_self (s : ByteArray) : bs s.data.toList = s := rfl
theorem bs_size (l : List UInt8) : (bs l).size = l.length := rfl
theorem bs_get (l : List UInt8) (k : Nat) (h : k < (bs l).size) : (bs l)[k] = l[k]'h := rfl
theorem size_len (s : ByteArray) : s.data.toList.length = s.size := by
  rw [Array.length_toList]; rfl
theorem bs_inj {a b : List UInt8} (h : bs a = bs b) : a = b := by rw [← bs_list a, ← bs_list b, h]
theorem ba_ext {a b : ByteArray} (h : a.data.toList = b.data.toList) : a = b := by
  rw [← bs_self a, ← bs_self b, h]
theorem extract_list (s : ByteArray) (a b : Nat) : (s.extract a b).data.toList = (s.data.toList.take b).drop a := by
  rw [ByteArray.data_extract, Array.toList_extract, List.extract_eq_take_drop]
  rw [List.drop_take]
theorem extract_bs (l : List UInt8) (a b : Nat) : (bs l).extract a b = bs ((l.take b).drop a) := ba_ext (by rw [extract_list, bs_list, bs_list])
theorem extract_front (l : List UInt8) (b : Nat) : (bs l).extract 0 b = bs (l.take b) := by rw [extract_bs, List.drop_zero]
theorem extract_back' (l : List UInt8) (a b : Nat) (h : l.length ≤ b) : (bs l).extract a b = bs (l.drop a) := by
  rw [extract_bs, List.take_of_length_le h]
theorem append_bs (a b : List UInt8) : bs a ++ bs b = bs (a ++ b) := ba_ext (by
  rw [ByteArray.data_append, Array.toList_append]; rfl)

theorem ba_list (s : ByteArray) : s.toList = s.data.toList := by rw [ByteArray.toList_eq]
theorem ba_ne {a b : ByteArray} (h : a ≠ b) : (a.toList == b.toList) = false := by
  rw [ba_list, ba_list, beq_eq_false_iff_ne]
  exact fun e => h (ba_ext e)
theorem ba_eq (a : ByteArray) : (a.toList == a.toList) = true := by simp
/-- The digits of a number, as bytes. -/
def dS (n : Nat) : List UInt8 := (decS n).data.toList
theorem dS_bs (n : Nat) : decS n = bs (dS n) := rfl
/-- The text of a valid fraction. -/
def textL (neg : Bool) (a b : Nat) : List UInt8 := (if neg = true then [45] else []) ++ (dS a ++ 47 :: dS b)
theorem textL_bs (neg : Bool) (a b : Nat) : (if neg = true then (⟨#[45]⟩ : ByteArray) ++ (decS a ++ ⟨#[47]⟩ ++ decS b) else decS a ++ ⟨#[47]⟩ ++ decS b) = bs (textL neg a b) := by
  have e : decS a ++ (⟨#[47]⟩ : ByteArray) ++ decS b = bs (dS a ++ 47 :: dS b) := by
    rw [dS_bs, dS_bs, show (⟨#[47]⟩ : ByteArray) = bs [47] from rfl, append_bs, append_bs]
    simp
  unfold textL
  split
  · rw [e, show (⟨#[45]⟩ : ByteArray) = bs [45] from rfl, append_bs]
  · rw [e]; rfl
theorem dS_zero : dS 0 = [48] := rfl
theorem dS_pos {n : Nat} (h : 0 < n) : dS n = (revd n).reverse.map UInt8.ofNat := by
  unfold dS decS
  rw [if_neg (by omega)]
theorem dS_ne (n : Nat) : dS n ≠ [] := by
  rcases Nat.eq_zero_or_pos n with h | h
  · subst h; rw [dS_zero]; simp
  · rw [dS_pos h, revd_pos h]; simp
theorem u8_toNat {x : Nat} (h : x < 256) : (UInt8.ofNat x).toNat = x := by
  rw [UInt8.toNat_ofNat']; exact Nat.mod_eq_of_lt h
theorem dS_dig {n : Nat} {c : UInt8} (h : c ∈ dS n) : 48 ≤ c.toNat ∧ c.toNat ≤ 57 := by
  rcases Nat.eq_zero_or_pos n with h0 | h0
  · subst h0; rw [dS_zero] at h; simp at h; subst h; decide
  · rw [dS_pos h0] at h
    obtain ⟨x, hx, rfl⟩ := List.mem_map.1 h
    have := revd_lt n x (List.mem_reverse.1 hx)
    rw [u8_toNat (by omega)]; omega
theorem digN_snoc (c : UInt8) : ∀ (l : List UInt8) (a : Nat), digN a (l ++ [c]) = (digN a l).bind fun v => if (48 ≤ c.toNat ∧ c.toNat ≤ 57) ∧ (limbs v).length ≤ 32 then some (10 * v + (c.toNat - 48)) else none
  | [], a => by simp only [List.nil_append, digN, Option.bind_some]
  | d :: l, a => by
    rw [List.cons_append, digN, digN]
    split
    · exact digN_snoc c l _
    · rfl
theorem digN_dS_pos : ∀ (n : Nat), 0 < n → (limbs n).length ≤ 32 → digN 0 ((revd n).reverse.map UInt8.ofNat) = some n := by
  intro n
  induction n using Nat.strongRecOn with
  | _ n ih =>
    intro h hl
    rw [revd_pos h, List.reverse_cons, List.map_append, List.map_singleton, digN_snoc]
    have hc : (UInt8.ofNat (48 + n % 10)).toNat = 48 + n % 10 := u8_toNat (by omega)
    have hv : digN 0 ((revd (n / 10)).reverse.map UInt8.ofNat) = some (n / 10) := by
      rcases Nat.eq_zero_or_pos (n / 10) with h0 | h0
      · rw [h0, revd_zero]; rfl
      · exact ih (n / 10) (by omega) h0 (Nat.le_trans (limbs_len_mono (Nat.div_le_self _ _)) hl)
    rw [hv, Option.bind_some, hc, if_pos ⟨⟨by omega, by omega⟩, Nat.le_trans (limbs_len_mono (Nat.div_le_self _ _)) hl⟩]
    congr 1
    omega
theorem digN_dS {n : Nat} (h : (limbs n).length ≤ 32) : digN 0 (dS n) = some n := by
  rcases Nat.eq_zero_or_pos n with h0 | h0
  · subst h0; rw [dS_zero]; simp [digN, limbs_zero]
  · rw [dS_pos h0]; exact digN_dS_pos n h0 h

/-- Where the first slash stands, or the length. -/
def slash : List UInt8 → Nat
  | [] => 0
  | c :: l => if c = 47 then 0 else slash l + 1
theorem slash_le : ∀ l, slash l ≤ l.length
  | [] => Nat.le_refl _
  | c :: l => by
    unfold slash
    split
    · omega
    · have := slash_le l; simp only [List.length_cons]; omega
theorem slash_index : ∀ l, Lib.indexByte l 47 = if slash l < l.length then (slash l : Int) else -1
  | [] => rfl
  | c :: l => by
    have ih := slash_index l
    have hle := slash_le l
    unfold Lib.indexByte slash
    by_cases hc : c = 47
    · subst hc; simp
    · rw [if_neg (by simpa using hc), if_neg hc, ih]
      by_cases h : slash l < l.length
      · rw [if_pos h, if_neg (by first | (simp; done) | (simp; omega)), if_pos (by first | (simp; done) | (simp; omega))]; omega
      · rw [if_neg h, if_pos (by simp), if_neg (by first | (simp; done) | (simp; omega))]
theorem slash_app {l m : List UInt8} (h : ∀ c ∈ l, c ≠ 47) : slash (l ++ 47 :: m) = l.length := by
  induction l with
  | nil => rfl
  | cons c l ih =>
    rw [List.cons_append]
    unfold slash
    rw [if_neg (h c (by simp)), ih (fun d hd => h d (by simp [hd]))]; rfl
theorem slash_lt_ne {l : List UInt8} (h : slash l < l.length) : l ≠ [] := fun e => by subst e; simp [slash] at h

/-- Whether a text begins with a minus; what stands behind it. -/
def minus1 (s : List UInt8) : Bool := Lib.hasPrefix s [45]
def rest1 (s : List UInt8) : List UInt8 := Lib.trimPrefix s [45]
/-- The fraction that a text may be. -/
def candN (s : List UInt8) : Nat := (digN 0 ((rest1 s).take (slash (rest1 s)))).getD 0
def candD (s : List UInt8) : Nat := (digN 0 ((rest1 s).drop (slash (rest1 s) + 1))).getD 0
def candF (s : List UInt8) : F := fr (minus1 s) (candN s) (candD s)
/-- What Read returns. -/
noncomputable def readF (s : List UInt8) : F × Int := open Classical in if ValidF (candF s) ∧ textL (minus1 s) (candN s) (candD s) = s then (candF s, 0) else (F0, 4)
theorem minus1_cons (c : UInt8) (l : List UInt8) : minus1 (c :: l) = (c == 45) := by
  unfold minus1 Lib.hasPrefix
  simp only [List.isPrefixOf, Bool.and_true]
  rw [Bool.beq_comm]
theorem rest1_yes (l : List UInt8) : rest1 (45 :: l) = l := by
  unfold rest1 Lib.trimPrefix
  rw [show Lib.hasPrefix (45 :: l) [45] = true from minus1_cons 45 l]; rfl
theorem rest1_no {s : List UInt8} (h : minus1 s = false) : rest1 s = s := by
  unfold rest1 Lib.trimPrefix
  rw [show Lib.hasPrefix s [45] = false from h]; rfl
/-- A text is read back. -/
theorem cand_text {neg : Bool} {a b : Nat} (ha : (limbs a).length ≤ 32) (hb : (limbs b).length ≤ 32) : minus1 (textL neg a b) = neg ∧ rest1 (textL neg a b) = dS a ++ 47 :: dS b ∧ candN (textL neg a b) = a ∧ candD (textL neg a b) = b := by
  have h47 : ∀ c ∈ dS a, c ≠ 47 := fun c hc e => by subst e; have := dS_dig hc; revert this; decide
  have hrest : minus1 (textL neg a b) = neg ∧ rest1 (textL neg a b) = dS a ++ 47 :: dS b := by
    cases neg with
    | true =>
      have e : textL true a b = 45 :: (dS a ++ 47 :: dS b) := rfl
      rw [e]
      exact ⟨minus1_cons _ _, rest1_yes _⟩
    | false =>
      have e : textL false a b = dS a ++ 47 :: dS b := rfl
      have hm : minus1 (dS a ++ 47 :: dS b) = false := by
        rcases hd : dS a with _ | ⟨c, l⟩
        · exact absurd hd (dS_ne a)
        · rw [List.cons_append, minus1_cons]
          have := dS_dig (n := a) (c := c) (by rw [hd]; simp)
          rw [beq_eq_false_iff_ne]
          intro e; subst e; revert this; decide
      rw [e]
      exact ⟨hm, rest1_no hm⟩
  refine ⟨hrest.1, hrest.2, ?_, ?_⟩
  · unfold candN
    rw [hrest.2, slash_app h47, List.take_left, digN_dS ha]; rfl
  · unfold candD
    rw [hrest.2, slash_app h47, show (dS a ++ 47 :: dS b).drop ((dS a).length + 1) = dS b from by rw [← List.drop_drop, List.drop_left]; rfl, digN_dS hb]; rfl
theorem readF_text {neg : Bool} {a b : Nat} (h : Ok neg a b) : readF (textL neg a b) = (fr neg a b, 0) := by
  obtain ⟨h1, _, h2, h3⟩ := cand_text (neg := neg) h.n32 h.d32
  unfold readF candF
  rw [h1, h2, h3, if_pos ⟨validF_fr.2 h, rfl⟩]
theorem readF_ok {s : List UInt8} (h : Ok (minus1 s) (candN s) (candD s)) (ht : textL (minus1 s) (candN s) (candD s) = s) : readF s = (candF s, 0) := by
  unfold readF
  rw [if_pos ⟨validF_fr.2 h, ht⟩]
theorem readF_bad {s : List UInt8} (h : ¬ (ValidF (candF s) ∧ textL (minus1 s) (candN s) (candD s) = s)) : readF s = (F0, 4) := by
  unfold readF
  rw [if_neg h]
/-- What is read is found, and has digits. -/
theorem read_found {s : List UInt8} (h : ValidF (candF s) ∧ textL (minus1 s) (candN s) (candD s) = s) : slash (rest1 s) < (rest1 s).length ∧ digN 0 ((rest1 s).take (slash (rest1 s))) ≠ none ∧ (rest1 s).take (slash (rest1 s)) ≠ [] ∧ digN 0 ((rest1 s).drop (slash (rest1 s) + 1)) ≠ none ∧ (rest1 s).drop (slash (rest1 s) + 1) ≠ [] := by
  obtain ⟨hv, ht⟩ := h
  have hok : Ok (minus1 s) (candN s) (candD s) := validF_fr.1 hv
  have h47 : ∀ c ∈ dS (candN s), c ≠ 47 := fun c hc e => by subst e; have := dS_dig hc; revert this; decide
  have hr : rest1 s = dS (candN s) ++ 47 :: dS (candD s) := by
    have := (cand_text (neg := minus1 s) hok.n32 hok.d32).2.1
    rw [ht] at this
    exact this
  have hs : slash (rest1 s) = (dS (candN s)).length := by rw [hr]; exact slash_app h47
  have e1 : (rest1 s).take (slash (rest1 s)) = dS (candN s) := by rw [hs, hr]; exact List.take_left
  have e2 : (rest1 s).drop (slash (rest1 s) + 1) = dS (candD s) := by rw [hs, hr, ← List.drop_drop, List.drop_left]; rfl
  rw [e1, e2, digN_dS hok.n32, digN_dS hok.d32]
  refine ⟨?_, by simp, dS_ne _, by simp, dS_ne _⟩
  rw [hs, hr]; simp
end Go.Proofs.Ytaojdlcailpheaa

namespace Go.Proofs.Ytaojdlcailpheaa
open Go.RowKit

theorem IsF.parts {w : World} {b va vb : Value} {x : F} (h : IsF w (.agg #[b, va, vb]) x) : b = .bool x.neg ∧ Sl w va x.num ∧ Sl w vb x.den := by
  obtain ⟨va', vb', e, h1, h2⟩ := h
  injection e with e
  have e := congrArg Array.toList e
  simp at e
  obtain ⟨e0, rfl, rfl⟩ := e
  exact ⟨e0, h1, h2⟩
/-- Cells off, off + 1, off + 2 of block b hold the fraction x. -/
def HasF (w : World) (b off : Nat) (x : F) : Prop := ∃ va vb, w.cell? ⟨b, off, none⟩ = some (.bool x.neg) ∧ w.cell? ⟨b, off + 1, none⟩ = some va ∧ w.cell? ⟨b, off + 2, none⟩ = some vb ∧ Sl w va x.num ∧ Sl w vb x.den
theorem HasF.after {w w' : World} {b off : Nat} {x : F} (h : HasF w b off x) (hb : Below w.heap.size w w') : HasF w' b off x := by
  obtain ⟨va, vb, h0, h1, h2, h3, h4⟩ := h
  exact ⟨va, vb, keep_cell hb h0, keep_cell hb h1, keep_cell hb h2, h3.after hb, h4.after hb⟩
/-- The slice value v reads as the fractions xs. -/
def SlF (w : World) (v : Value) (xs : List F) : Prop := ∃ b cap, v = .slice (some ⟨b, 0, none⟩) xs.length cap ∧ xs.length ≤ cap ∧ cap ≤ 9223372036854775807 ∧ ∀ (i : Nat) (x : F), xs[i]? = some x → HasF w b (i * 3) x
theorem SlF.after {w w' : World} {v : Value} {xs : List F} (h : SlF w v xs) (hb : Below w.heap.size w w') : SlF w' v xs := by
  obtain ⟨b, cap, h1, h2, h3, h4⟩ := h
  exact ⟨b, cap, h1, h2, h3, fun i x hx => (h4 i x hx).after hb⟩
/-- The fraction whose value v is laid as three cells. -/
theorem HasF.of_cells {w : World} {b off : Nat} {x : F} {va vb : Value} (h : IsF w (.agg #[.bool x.neg, va, vb]) x) (h0 : w.cell? ⟨b, off, none⟩ = some (.bool x.neg)) (h1 : w.cell? ⟨b, off + 1, none⟩ = some va) (h2 : w.cell? ⟨b, off + 2, none⟩ = some vb) : HasF w b off x := by
  obtain ⟨va', vb', e, h3, h4⟩ := h
  obtain ⟨rfl, rfl⟩ : va = va' ∧ vb = vb' := by simpa using e
  exact ⟨va, vb, h0, h1, h2, h3, h4⟩
/-- A literal of two fractions. -/
theorem SlF.two (w : World) {x y : F} {va vb vc vd : Value} {cap : Nat} (h : IsF w (.agg #[.bool x.neg, va, vb]) x) (k : IsF w (.agg #[.bool y.neg, vc, vd]) y) (hc : cap = 2) (t : TypeId) :
    SlF (w.alloc (.cells #[.bool x.neg, va, vb, .bool y.neg, vc, vd] t)) (.slice (some ⟨w.heap.size, 0, none⟩) 2 cap) [x, y] := by
  subst hc
  have hb := (Below.refl w.heap.size w).alloc (Nat.le_refl _) (.cells #[.bool x.neg, va, vb, .bool y.neg, vc, vd] t)
  have bx := Box.new w #[.bool x.neg, va, vb, .bool y.neg, vc, vd] t
  refine ⟨_, _, rfl, Nat.le_refl _, by omega, fun i z hz => ?_⟩
  match i, hz with
  | 0, hz =>
    obtain rfl : x = z := by simpa using hz
    exact HasF.of_cells (va := va) (vb := vb) (h.after hb) (bx.cell 0) (bx.cell 1) (bx.cell 2)
  | 1, hz =>
    obtain rfl : y = z := by simpa using hz
    exact HasF.of_cells (va := vc) (vb := vd) (k.after hb) (bx.cell 3) (bx.cell 4) (bx.cell 5)
/-- A literal of three fractions. -/
theorem SlF.three (w : World) {x y z : F} {va vb vc vd ve vf : Value} {cap : Nat} (h : IsF w (.agg #[.bool x.neg, va, vb]) x) (k : IsF w (.agg #[.bool y.neg, vc, vd]) y) (l : IsF w (.agg #[.bool z.neg, ve, vf]) z) (hc : cap = 3) (t : TypeId) :
    SlF (w.alloc (.cells #[.bool x.neg, va, vb, .bool y.neg, vc, vd, .bool z.neg, ve, vf] t)) (.slice (some ⟨w.heap.size, 0, none⟩) 3 cap) [x, y, z] := by
  subst hc
  have hb := (Below.refl w.heap.size w).alloc (Nat.le_refl _) (.cells #[.bool x.neg, va, vb, .bool y.neg, vc, vd, .bool z.neg, ve, vf] t)
  have bx := Box.new w #[.bool x.neg, va, vb, .bool y.neg, vc, vd, .bool z.neg, ve, vf] t
  refine ⟨_, _, rfl, Nat.le_refl _, by omega, fun i u hu => ?_⟩
  match i, hu with
  | 0, hu =>
    obtain rfl : x = u := by simpa using hu
    exact HasF.of_cells (va := va) (vb := vb) (h.after hb) (bx.cell 0) (bx.cell 1) (bx.cell 2)
  | 1, hu =>
    obtain rfl : y = u := by simpa using hu
    exact HasF.of_cells (va := vc) (vb := vd) (k.after hb) (bx.cell 3) (bx.cell 4) (bx.cell 5)
  | 2, hu =>
    obtain rfl : z = u := by simpa using hu
    exact HasF.of_cells (va := ve) (vb := vf) (l.after hb) (bx.cell 6) (bx.cell 7) (bx.cell 8)
/-- A literal of one fraction. -/
theorem SlF.one (w : World) {x : F} {va vb : Value} {cap : Nat} (h : IsF w (.agg #[.bool x.neg, va, vb]) x) (hc : cap = 1) (t : TypeId) :
    SlF (w.alloc (.cells #[.bool x.neg, va, vb] t)) (.slice (some ⟨w.heap.size, 0, none⟩) 1 cap) [x] := by
  subst hc
  have hb := (Below.refl w.heap.size w).alloc (Nat.le_refl _) (.cells #[.bool x.neg, va, vb] t)
  have bx := Box.new w #[.bool x.neg, va, vb] t
  refine ⟨_, _, rfl, Nat.le_refl _, by omega, fun i u hu => ?_⟩
  match i, hu with
  | 0, hu =>
    obtain rfl : x = u := by simpa using hu
    exact HasF.of_cells (va := va) (vb := vb) (h.after hb) (bx.cell 0) (bx.cell 1) (bx.cell 2)
theorem Tag32.lt {w : World} {b : Nat} (h : Tag32 w b) : b < w.heap.size := by
  obtain ⟨cs, fz, h⟩ := h
  exact (Array.getElem?_eq_some_iff.1 h).1
/-- Limbs are kept where only a row of another type has grown. -/
theorem Sl.grown {w w' : World} {v : Value} {l : List Nat} {row : Option Nat} (h : Sl w v l) (hg : w.grownBy w' row) (hr : ∀ g, row = some g → ¬ Tag32 w g) : Sl w' v l := by
  obtain ⟨h0, a, cap, h1, h2, h3, h5, h6⟩ := h
  refine ⟨h0, a, cap, h1, h2, h3, ⟨h5.1, fun hl b off ha => ?_⟩, fun hl => ?_⟩
  · have ht := h5.2 hl b off ha
    have hne : some b ≠ row := fun e => hr b e.symm ht
    obtain ⟨cs, fz, ht'⟩ := ht
    exact ⟨cs, fz, (hg.block b (Tag32.lt ⟨cs, fz, ht'⟩) hne).trans ht'⟩
  · obtain ⟨b, off, ha, hlt, hc⟩ := h6 hl
    have ht := h5.2 hl b off ha
    have hne : some b ≠ row := fun e => hr b e.symm ht
    exact ⟨b, off, ha, Nat.lt_of_lt_of_le hlt hg.size, fun i hi => hg.cell (hc i hi) hne⟩
theorem ownsRow_tag {w : World} {base n size : Nat} {t : TypeId} {v : Value} {xs : List Value} (h : w.ownsRow base t size v n xs) (ht : t ≠ 51) : ∀ g, v.ownBlock = some g → ¬ Tag32 w g := by
  intro g hg hT
  obtain ⟨cs, fz, hT⟩ := hT
  rcases h.2 with ⟨rfl, _⟩ | ⟨g', cap, cur, rfl, _, hb, _⟩
  · cases hg
  · obtain rfl : g' = g := by simpa [Value.ownBlock] using hg
    rw [hb] at hT
    injection hT with e
    injection e with e1 e2
    exact ht e2
/-- The cells of fractions as an owned row holds them: three for each. -/
def cellsF (es : List (Bool × Value × Value)) : List Value := es.flatMap fun e => [.bool e.1, e.2.1, e.2.2]
theorem cellsF_len : ∀ es : List (Bool × Value × Value), (cellsF es).length = es.length * 3
  | [] => rfl
  | e :: es => by
    have := cellsF_len es
    unfold cellsF at this ⊢
    rw [List.flatMap_cons, List.length_append, this]
    simp only [List.length_cons, List.length_nil]
    omega
theorem cellsF_get : ∀ (es : List (Bool × Value × Value)) (i : Nat) (e : Bool × Value × Value), es[i]? = some e →
    (cellsF es)[i * 3]? = some (.bool e.1) ∧ (cellsF es)[i * 3 + 1]? = some e.2.1 ∧ (cellsF es)[i * 3 + 2]? = some e.2.2
  | [], i, e, h => by simp at h
  | x :: es, 0, e, h => by
    obtain rfl : x = e := by simpa using h
    exact ⟨rfl, rfl, rfl⟩
  | x :: es, i + 1, e, h => by
    have ih := cellsF_get es i e (by simpa using h)
    have e0 : ∀ j, (cellsF (x :: es))[j + 3]? = (cellsF es)[j]? := fun j => by
      unfold cellsF
      rw [List.flatMap_cons]
      rfl
    rw [show (i + 1) * 3 = i * 3 + 3 by omega, show i * 3 + 3 + 1 = i * 3 + 1 + 3 by omega, show i * 3 + 3 + 2 = i * 3 + 2 + 3 by omega, e0, e0, e0]
    exact ih
theorem cellsF_snoc (es : List (Bool × Value × Value)) (e : Bool × Value × Value) : cellsF (es ++ [e]) = cellsF es ++ [.bool e.1, e.2.1, e.2.2] := by
  unfold cellsF; rw [List.flatMap_append]; rfl
/-- What the entries es of a row of fractions stand for. -/
def Ents (w : World) (es : List (Bool × Value × Value)) (xs : List F) : Prop := es.length = xs.length ∧ ∀ (i : Nat) (x : F), xs[i]? = some x → ∃ va vb, es[i]? = some (x.neg, va, vb) ∧ Sl w va x.num ∧ Sl w vb x.den
theorem Ents.after {w w' : World} {es : List (Bool × Value × Value)} {xs : List F} (h : Ents w es xs) (hb : Below w.heap.size w w') : Ents w' es xs :=
  ⟨h.1, fun i x hx => by obtain ⟨va, vb, h1, h2, h3⟩ := h.2 i x hx; exact ⟨va, vb, h1, h2.after hb, h3.after hb⟩⟩
theorem Ents.grown {w w' : World} {es : List (Bool × Value × Value)} {xs : List F} {row : Option Nat} (h : Ents w es xs) (hg : w.grownBy w' row) (hr : ∀ g, row = some g → ¬ Tag32 w g) : Ents w' es xs :=
  ⟨h.1, fun i x hx => by obtain ⟨va, vb, h1, h2, h3⟩ := h.2 i x hx; exact ⟨va, vb, h1, h2.grown hg hr, h3.grown hg hr⟩⟩
theorem Ents.snoc {w : World} {es : List (Bool × Value × Value)} {xs : List F} {x : F} {va vb : Value} (h : Ents w es xs) (h1 : Sl w va x.num) (h2 : Sl w vb x.den) : Ents w (es ++ [(x.neg, va, vb)]) (xs ++ [x]) := by
  refine ⟨by simp [h.1], fun i y hy => ?_⟩
  rcases Nat.lt_or_ge i xs.length with hi | hi
  · rw [List.getElem?_append_left hi] at hy
    obtain ⟨a, b, e1, e2, e3⟩ := h.2 i y hy
    exact ⟨a, b, by rw [List.getElem?_append_left (by rw [h.1]; exact hi)]; exact e1, e2, e3⟩
  · rw [List.getElem?_append_right hi] at hy
    have hi0 : i - xs.length = 0 := by
      rcases Nat.eq_zero_or_pos (i - xs.length) with h0 | h0
      · exact h0
      · rw [List.getElem?_eq_none (by simp; omega)] at hy; cases hy
    rw [hi0] at hy
    obtain rfl : x = y := by simpa using hy
    exact ⟨va, vb, by rw [List.getElem?_append_right (by rw [h.1]; exact hi), h.1, hi0]; rfl, h1, h2⟩
theorem grownBy_of_below {w w' : World} (hb : Below w.heap.size w w') : w.grownBy w' none := ⟨hb.os, hb.tape, hb.output, hb.size, fun k hk _ => hb.block k hk⟩
theorem ownsRow_after {w w' : World} {base n size : Nat} {t : TypeId} {v : Value} {xs : List Value} (h : w.ownsRow base t size v n xs) (hb : Below w.heap.size w w') : w'.ownsRow base t size v n xs :=
  h.kept (grownBy_of_below hb) (by cases hv : v.ownBlock <;> simp)
theorem ownsRow_one (w : World) {base : Nat} (t : TypeId) (hb : base ≤ w.heap.size) (x y z : Value) : (w.alloc (.cells #[x, y, z] t)).ownsRow base t 3 (.slice (some ⟨w.heap.size, 0, none⟩) 1 1) 1 [x, y, z] :=
  ⟨rfl, .inr ⟨w.heap.size, 1, #[x, y, z], rfl, hb, heap_alloc_new w _, Nat.le_refl _, by simp [maxLen], rfl, rfl⟩⟩
/-- An owned row of fractions reads as fractions. -/
theorem SlF.of_own {w : World} {base n : Nat} {t : TypeId} {v : Value} {es : List (Bool × Value × Value)} {xs : List F} (h : w.ownsRow base t 3 v n (cellsF es)) (he : Ents w es xs) (hp : 0 < xs.length) : SlF w v xs := by
  have hn : n = xs.length := by have := h.1; rw [cellsF_len, he.1] at this; omega
  subst hn
  rcases h.2 with ⟨_, h0⟩ | ⟨g, cap, cur, rfl, _, hg, h3, h4, _, _⟩
  · omega
  · refine ⟨g, cap, rfl, h3, by simpa [maxLen] using h4, fun i x hx => ?_⟩
    obtain ⟨va, vb, e1, e2, e3⟩ := he.2 i x hx
    obtain ⟨g0, g1, g2⟩ := cellsF_get es i _ e1
    have hc := h.cells (g := g) rfl
    have hadd : ∀ j, (⟨g, 0, none⟩ : Addr).add j = ⟨g, j, none⟩ := fun j => by unfold Addr.add; split <;> simp_all
    have c0 := hc _ _ g0
    have c1 := hc _ _ g1
    have c2 := hc _ _ g2
    rw [hadd] at c0 c1 c2
    exact ⟨va, vb, c0, c1, c2, e2, e3⟩
theorem SlF.lt {w : World} {b cap n : Nat} {xs : List F} (h : SlF w (.slice (some ⟨b, 0, none⟩) n cap) xs) (hp : 0 < xs.length) : b < w.heap.size := by
  obtain ⟨b', cap', e, _, _, h4⟩ := h
  obtain ⟨rfl, _, _⟩ : b = b' ∧ n = xs.length ∧ cap = cap' := by simpa using e
  obtain ⟨x, hx⟩ : ∃ x, xs[0]? = some x := ⟨xs[0], List.getElem?_eq_getElem hp⟩
  obtain ⟨va, vb, h0, _⟩ := h4 0 x hx
  exact World.block_lt_of_cell? w _ h0
end Go.Proofs.Ytaojdlcailpheaa
