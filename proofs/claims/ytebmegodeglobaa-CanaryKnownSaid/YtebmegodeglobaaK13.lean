/- Walks of package tails: is a part above a bound?
   Walks of package tails: above. -/
import Derived.Test.YtebmegodeglobaaK12
import Derived.Deep.DeepCutAuto
set_option linter.unusedVariables false
namespace Go.Proofs.Ytebmegodeglobaa
open Go.RowKit

theorem made_big {m : Nat} (h : 32 < (limbs m).length) : made false m 1 = (F0, 3) := by
  unfold made
  rw [Nat.gcd_one_right, Nat.div_one, Nat.div_one, if_pos (.inl h)]
theorem mul_big {a b : Nat} (ha : (limbs a).length ≤ 32) (hb : (limbs b).length ≤ 32) (h : 32 < (limbs (a * b)).length) : opF mulN (Wh a) (Wh b) = (F0, 3) := by
  unfold Wh
  rw [opF_fr (ok_wh ha) (ok_wh hb)]
  exact made_big h
theorem cmp_wh {a b : Nat} (ha : (limbs a).length ≤ 32) (hb : (limbs b).length ≤ 32) : 0 < (cmpF (Wh a) (Wh b)).1 ↔ b < a := by
  rw [cmpF_yes ⟨valid_wh ha, valid_wh hb⟩]
  have e1 : val (Wh a).num = a := val_limbs a
  have e2 : val (Wh a).den = 1 := val_limbs 1
  have e3 : val (Wh b).num = b := val_limbs b
  have e4 : val (Wh b).den = 1 := val_limbs 1
  rw [e1, e2, e3, e4]
  show 0 < ordN false a 1 false b 1 ↔ b < a
  unfold ordN
  rw [if_pos rfl, if_neg (by simp), Nat.mul_one, Nat.mul_one]
  by_cases h1 : a < b
  · rw [if_pos h1]; constructor
    · intro h; omega
    · intro h; omega
  · rw [if_neg h1]
    by_cases h2 : a = b
    · rw [if_pos h2]; constructor
      · intro h; omega
      · intro h; omega
    · rw [if_neg h2]; constructor
      · intro _; omega
      · intro _; omega
/-- A quotient of a part and all, held against a bound. -/
theorem quot_cmp {t A x y : Nat} (ht : (limbs t).length ≤ 32) (hA : (limbs A).length ≤ 32) (hA0 : 0 < A) (hok : Ok false x y) :
    ∃ q, opF divN (Wh t) (Wh A) = (q, 0) ∧ ((0 < (cmpF q (fr false x y)).1) ↔ A * x < t * y) := by
  have hg : 0 < Nat.gcd t A := Nat.gcd_pos_of_pos_right _ hA0
  obtain ⟨t', ht'⟩ := Nat.gcd_dvd_left t A
  obtain ⟨A', hA'⟩ := Nat.gcd_dvd_right t A
  have e1 : t / Nat.gcd t A = t' := Nat.div_eq_of_eq_mul_right hg ht'
  have e2 : A / Nat.gcd t A = A' := Nat.div_eq_of_eq_mul_right hg hA'
  have l1 : (limbs t').length ≤ 32 := by rw [← e1]; exact Nat.le_trans (limbs_len_mono (Nat.div_le_self _ _)) ht
  have l2 : (limbs A').length ≤ 32 := by rw [← e2]; exact Nat.le_trans (limbs_len_mono (Nat.div_le_self _ _)) hA
  have hA'0 : 0 < A' := by
    rcases Nat.eq_zero_or_pos A' with h | h
    · rw [h, Nat.mul_zero] at hA'; omega
    · exact h
  have hgcd : Nat.gcd t' A' = 1 := by rw [← e1, ← e2]; exact Nat.gcd_div_gcd_div_gcd_of_pos_right hA0
  have okq : Ok false t' A' := ⟨l1, l2, hA'0, hgcd, fun _ => rfl⟩
  refine ⟨fr false t' A', ?_, ?_⟩
  · rw [div_made ht hA hA0]
    unfold made
    rw [e1, e2, if_neg (by omega)]
    rfl
  · rw [cmpF_yes ⟨validF_fr.2 okq, validF_fr.2 hok⟩]
    simp only [fr, val_limbs]
    have key : (A * x < t * y) ↔ (x * A' < t' * y) := by
      have m1 : A * x = Nat.gcd t A * (x * A') := by
        rw [show A * x = (Nat.gcd t A * A') * x from by rw [← hA']]
        simp only [Nat.mul_assoc, Nat.mul_comm]
      have m2 : t * y = Nat.gcd t A * (t' * y) := by
        rw [show t * y = (Nat.gcd t A * t') * y from by rw [← ht'], Nat.mul_assoc]
      rw [m1, m2]
      exact Nat.mul_lt_mul_left hg
    rw [key]
    unfold ordN
    rw [if_pos rfl, if_neg (by simp)]
    by_cases h1 : t' * y < x * A'
    · rw [if_pos h1]; constructor
      · intro h; omega
      · intro h; omega
    · rw [if_neg h1]
      by_cases h2 : t' * y = x * A'
      · rw [if_pos h2]; constructor
        · intro h; omega
        · intro h; omega
      · rw [if_neg h2]; constructor
        · intro _; omega
        · intro _; omega

set_option maxRecDepth 100000 in
set_option maxHeartbeats 2000000 in
theorem above1_t (w : World) (v va vb : Value) (D S N B t x y A n c2 c9 c10 : Nat) (h : IsF w v (Wh t)) (hD : VarF w D (Wh y)) (hS : Box w S (spCells n va vb c2 c9 c10) 79) (hs1 : Sl w va (limbs A)) (hs2 : Sl w vb (limbs 1))
    (hN : VarF w N (Wh x)) (hB : VarF w B (fr false x y)) (hok : Ok false x y) (ht : (limbs t).length ≤ 32) (hA : (limbs A).length ≤ 32) (hA0 : 0 < A) :
    Calls Try.prog 64 #[v, .pointer (some ⟨D, 0, none⟩), .pointer (some ⟨S, 0, none⟩), .pointer (some ⟨N, 0, none⟩), .pointer (some ⟨B, 0, none⟩)] w (RetC w (A * x < t * y)) := by
  have HX := h
  obtain ⟨ua, ub, rfl, h1, h2⟩ := h
  obtain ⟨p0, cp0, rfl, _, _⟩ := h1.shape
  obtain ⟨q0, cq0, rfl, _, _⟩ := h2.shape
  obtain ⟨p1, cp1, rfl, _, _⟩ := hs1.shape
  obtain ⟨q1, cq1, rfl, _, _⟩ := hs2.shape
  obtain ⟨W0, hW, bx, hsz, hb0⟩ : ∃ W0, W0 = w.alloc (.cells #[.bool (Wh t).neg, .slice p0 (Wh t).num.length cp0, .slice q0 (Wh t).den.length cq0] 26) ∧ Box W0 w.heap.size #[.bool (Wh t).neg, .slice p0 (Wh t).num.length cp0, .slice q0 (Wh t).den.length cq0] 26 ∧ W0.heap.size = w.heap.size + 1 ∧ Below w.heap.size w W0 :=
    ⟨_, rfl, Box.new w _ _, by simp, held_alloc (Below.refl _ w)⟩
  have HI := Lib.hid (HX.after hb0)
  have BX := Lib.hid bx
  have BS : Hid (Box W0 S #[.int .i64 (n : Int), .bool false, .slice p1 (limbs A).length cp1, .slice q1 (limbs 1).length cq1, .func (.func 51) #[] #[.pointer (some ⟨c2, 0, none⟩), .pointer (some ⟨c9, 0, none⟩), .pointer (some ⟨c10, 0, none⟩)]] 79) := hS.after hb0
  have HSI := Lib.hid (show IsF W0 (.agg #[.bool false, .slice p1 (limbs A).length cp1, .slice q1 (limbs 1).length cq1]) (Wh A) from ⟨_, _, rfl, hs1.after hb0, hs2.after hb0⟩)
  obtain ⟨d1, d2, bD, sD1, sD2⟩ := hD.after hb0
  obtain ⟨n1, n2, bN, sN1, sN2⟩ := hN.after hb0
  obtain ⟨b1, b2, bB, sB1, sB2⟩ := hB.after hb0
  have BD := Lib.hid bD
  have BN := Lib.hid bN
  have BB := Lib.hid bB
  have HDI := Lib.hid (show IsF W0 (.agg #[.bool (Wh y).neg, d1, d2]) (Wh y) from ⟨_, _, rfl, sD1, sD2⟩)
  have HNI := Lib.hid (show IsF W0 (.agg #[.bool (Wh x).neg, n1, n2]) (Wh x) from ⟨_, _, rfl, sN1, sN2⟩)
  have HBI := Lib.hid (show IsF W0 (.agg #[.bool (fr false x y).neg, b1, b2]) (fr false x y) from ⟨_, _, rfl, sB1, sB2⟩)
  have HB0 := Lib.hid hb0
  have hx32 : (limbs x).length ≤ 32 := hok.n32
  have hy32 : (limbs y).length ≤ 32 := hok.d32
  obtain ⟨i0, i1, i2⟩ := bx.cells3
  obtain ⟨j0, j1, j2⟩ := bD.cells3
  -- the two products
  obtain ⟨r1, hr1⟩ : ∃ r, opF mulN (Wh t) (Wh y) = r := ⟨_, rfl⟩
  obtain ⟨r2, hr2⟩ : ∃ r, opF mulN (Wh A) (Wh x) = r := ⟨_, rfl⟩
  have HR1 := Lib.hid hr1
  have HR2 := Lib.hid hr2
  clear HX h1 h2 hb0 bx bD bN bB sD1 sD2 sN1 sN2 sB1 sB2 hS hs1 hs2 hD hN hB
  have hcase : Hid ((r1 = (Wh (t * y), 0) ∧ r2 = (Wh (A * x), 0) ∧ (limbs (t * y)).length ≤ 32 ∧ (limbs (A * x)).length ≤ 32) ∨ (r1.2 = 0 ∧ r2.2 = 3) ∨ (r1.2 = 3)) := by
    by_cases g1 : (limbs (t * y)).length ≤ 32
    · have e1 := mul_wh ht hy32 g1
      rw [hr1] at e1
      by_cases g2 : (limbs (A * x)).length ≤ 32
      · have e2 := mul_wh hA hx32 g2
        rw [hr2] at e2
        exact .inl ⟨e1, e2, g1, g2⟩
      · have e2 := mul_big hA hx32 (by omega)
        rw [hr2] at e2
        exact .inr (.inl ⟨by rw [e1], by rw [e2]⟩)
    · have e1 := mul_big ht hy32 (by omega)
      rw [hr1] at e1
      exact .inr (.inr (by rw [e1]))
  clear hr1 hr2
  go_enter Try.func64, Try.ntmps64
  go_upto_region 1 with fail
  rw [← hW]
  clear hW
  go_wp2_with fail
  refine (Mul_c _ _ _ (Wh t) (Wh y) HI.out HDI.out).mono ?_
  rw [HR1.out]
  rintro e w1 ⟨v1, rfl, hv1, hb1⟩
  obtain ⟨ra, rb, rfl, h3, h4⟩ := hv1
  obtain ⟨p2, cp2, rfl, _, _⟩ := h3.shape
  obtain ⟨q2, cq2, rfl, _, _⟩ := h4.shape
  obtain ⟨W2, hW2⟩ : ∃ W2, W2 = w1.alloc (.cells #[.bool r1.1.neg, .slice p2 r1.1.num.length cp2, .slice q2 r1.1.den.length cq2] 26) := ⟨_, rfl⟩
  have hb2 : Below w1.heap.size w1 W2 := hW2 ▸ held_alloc (Below.refl _ w1)
  have bA : Box W2 w1.heap.size #[.bool r1.1.neg, .slice p2 r1.1.num.length cp2, .slice q2 r1.1.den.length cq2] 26 := hW2 ▸ Box.new w1 _ _
  have hb12 := hb1.trans (hb2.mono hb1.size)
  have HA := Lib.hid (show IsF W2 (.agg #[.bool r1.1.neg, .slice p2 r1.1.num.length cp2, .slice q2 r1.1.den.length cq2]) r1.1 from ⟨_, _, rfl, h3.after hb2, h4.after hb2⟩)
  have BA := Lib.hid bA
  have HB2 := Lib.hid hb12
  obtain ⟨s0, s1, s2, s3, s4⟩ := (BS.out.after hb12).cells5
  obtain ⟨k0, k1, k2⟩ := (BN.out.after hb12).cells3
  clear h3 h4 hb1 hb2 hb12 bA i0 i1 i2 j0 j1 j2
  go_upto_region 2 with fail
  rw [← hW2]
  clear hW2
  go_wp2_with fail
  refine (Mul_c _ _ _ (Wh A) (Wh x) (HSI.out.after HB2.out) (HNI.out.after HB2.out)).mono ?_
  rw [HR2.out]
  rintro e w3 ⟨v3, rfl, hv3, hb3⟩
  obtain ⟨ra, rb, rfl, h3, h4⟩ := hv3
  obtain ⟨p3, cp3, rfl, _, _⟩ := h3.shape
  obtain ⟨q3, cq3, rfl, _, _⟩ := h4.shape
  obtain ⟨W4, hW4⟩ : ∃ W4, W4 = w3.alloc (.cells #[.bool r2.1.neg, .slice p3 r2.1.num.length cp3, .slice q3 r2.1.den.length cq3] 26) := ⟨_, rfl⟩
  have hb4 : Below w3.heap.size w3 W4 := hW4 ▸ held_alloc (Below.refl _ w3)
  have bB4 : Box W4 w3.heap.size #[.bool r2.1.neg, .slice p3 r2.1.num.length cp3, .slice q3 r2.1.den.length cq3] 26 := hW4 ▸ Box.new w3 _ _
  have hb34 := hb3.trans (hb4.mono hb3.size)
  have HBB := Lib.hid (show IsF W4 (.agg #[.bool r2.1.neg, .slice p3 r2.1.num.length cp3, .slice q3 r2.1.den.length cq3]) r2.1 from ⟨_, _, rfl, h3.after hb4, h4.after hb4⟩)
  have HA4 := Lib.hid (HA.out.after hb34)
  have HB4 := Lib.hid (HB2.out.trans (hb34.mono HB2.out.size))
  obtain ⟨k0, k1, k2⟩ := bB4.cells3
  obtain ⟨m0, m1, m2⟩ := (BA.out.after hb34).cells3
  obtain ⟨s0, s1, s2, s3, s4⟩ := (BS.out.after HB4.out).cells5
  obtain ⟨i0, i1, i2⟩ := (BX.out.after HB4.out).cells3
  have HFR := Lib.hid (HB0.out.trans (HB4.out.mono HB0.out.size))
  clear h3 h4 hb3 hb4 hb34 bB4
  go_upto_region 3 with fail
  rw [← hW4]
  clear hW4
  rcases hcase.out with ⟨rfl, rfl, g1, g2⟩ | hno
  · have hiff := Lib.hid (cmp_wh g1 g2)
    obtain ⟨z, hz⟩ : ∃ z, (cmpF (Wh (t * y)) (Wh (A * x))).1 = z := ⟨_, rfl⟩
    rw [hz] at hiff
    have HZ := Lib.hid hz
    clear hz
    go_wp2_with fail
    refine (tsign_c _ _ _ (Wh (t * y)) (Wh (A * x)) HA4.out HBB.out).mono ?_
    rw [HZ.out]
    rintro e w5 ⟨rfl, hb5⟩
    have HF5 := Lib.hid (HFR.out.trans (hb5.mono HFR.out.size))
    clear hb5
    go_wp2_with fail
    go_ret
    exact ⟨decide (0 < z), rfl, by rw [decide_eq_true_iff]; exact hiff.out, HF5.out⟩
  · obtain ⟨qq, hq, hqc⟩ := quot_cmp ht hA hA0 hok
    obtain ⟨z, hz⟩ : ∃ z, (cmpF qq (fr false x y)).1 = z := ⟨_, rfl⟩
    rw [hz] at hqc
    have HZ := Lib.hid hz
    have HQ := Lib.hid hq
    have hiff := Lib.hid hqc
    have HIB := Lib.hid (HBI.out.after HB4.out)
    have HI4 := Lib.hid (HI.out.after HB4.out)
    have HS4 := Lib.hid (HSI.out.after HB4.out)
    have BBB := Lib.hid (BB.out.after HB4.out)
    clear hz hq hqc HBB HA4 HBI HI HSI HNI HDI BX BS BD BN BB HB2 HA BA k0 k1 k2 m0 m1 m2 hcase HR1 HR2
    rcases hno with ⟨e1, e2⟩ | e1
    all_goals
      go_upto_region 5 with fail
      go_wp2_with fail
      refine (Div_c _ _ _ (Wh t) (Wh A) HI4.out HS4.out).mono ?_
      rw [HQ.out]
      rintro e w5 ⟨v5, rfl, hv5, hb5⟩
      obtain ⟨ra, rb, rfl, h5, h6⟩ := hv5
      obtain ⟨p5, cp5, rfl, _, _⟩ := h5.shape
      obtain ⟨q5, cq5, rfl, _, _⟩ := h6.shape
      obtain ⟨W6, hW6⟩ : ∃ W6, W6 = w5.alloc (.cells #[.bool qq.neg, .slice p5 qq.num.length cp5, .slice q5 qq.den.length cq5] 26) := ⟨_, rfl⟩
      have hb6 : Below w5.heap.size w5 W6 := hW6 ▸ held_alloc (Below.refl _ w5)
      have b6 : Box W6 w5.heap.size #[.bool qq.neg, .slice p5 qq.num.length cp5, .slice q5 qq.den.length cq5] 26 := hW6 ▸ Box.new w5 _ _
      have hb56 := hb5.trans (hb6.mono hb5.size)
      have HQ6 := Lib.hid (show IsF W6 (.agg #[.bool qq.neg, .slice p5 qq.num.length cp5, .slice q5 qq.den.length cq5]) qq from ⟨_, _, rfl, h5.after hb6, h6.after hb6⟩)
      have HB6 := Lib.hid (HIB.out.after hb56)
      have HF6 := Lib.hid (HFR.out.trans (hb56.mono HFR.out.size))
      obtain ⟨k0, k1, k2⟩ := b6.cells3
      obtain ⟨m0, m1, m2⟩ := (BBB.out.after hb56).cells3
      clear h5 h6 hb5 hb6 hb56 b6 s0 s1 s2 s3 s4 i0 i1 i2
      go_upto_region 6 with fail
      rw [← hW6]
      clear hW6
      go_wp2_with fail
      refine (tsign_c _ _ _ qq (fr false x y) HQ6.out HB6.out).mono ?_
      rw [HZ.out]
      rintro e w7 ⟨rfl, hb7⟩
      have HF7 := Lib.hid (HF6.out.trans (hb7.mono HF6.out.size))
      clear hb7
      go_wp2_with fail
      go_ret
      exact ⟨decide (0 < z), rfl, by rw [decide_eq_true_iff]; exact hiff.out, HF7.out⟩
end Go.Proofs.Ytebmegodeglobaa

namespace Go.Proofs.Ytebmegodeglobaa
open Go.RowKit

/-- The closure that above returns: its four variables. -/
def IsAb (w : World) (f : Value) (n a c x y : Nat) : Prop := ∃ D S N B va vb c2 c9 c10, f = .func (.func 64) #[] #[.pointer (some ⟨D, 0, none⟩), .pointer (some ⟨S, 0, none⟩), .pointer (some ⟨N, 0, none⟩), .pointer (some ⟨B, 0, none⟩)] ∧
  VarF w D (Wh y) ∧ Box w S (spCells n va vb c2 c9 c10) 79 ∧ Sl w va (limbs ((a + c) ^ n)) ∧ Sl w vb (limbs 1) ∧ VarF w N (Wh x) ∧ VarF w B (fr false x y)
theorem IsAb.after {w w' : World} {f : Value} {n a c x y : Nat} (h : IsAb w f n a c x y) (hb : Below w.heap.size w w') : IsAb w' f n a c x y := by
  obtain ⟨D, S, N, B, va, vb, c2, c9, c10, e, h1, h2, h3, h4, h5, h6⟩ := h
  exact ⟨D, S, N, B, va, vb, c2, c9, c10, e, h1.after hb, h2.after hb, h3.after hb, h4.after hb, h5.after hb, h6.after hb⟩

theorem heap_alloc_push' (w : World) (o : Obj) : (w.alloc o).heap = w.heap.push o := rfl
theorem fourA {w : World} {o1 o2 o3 o4 : Obj} {B : Nat} (h : w.heap.size = B) : ((((w.alloc o1).alloc o2).alloc o3).alloc o4).heap[B]? = some o1 := by
  subst h
  rw [Below.heap_alloc _ _ _ (by simp <;> omega), Below.heap_alloc _ _ _ (by simp <;> omega), Below.heap_alloc _ _ _ (by simp)]
  exact heap_alloc_new w o1
theorem fourB {w : World} {o1 o2 o3 o4 : Obj} {B : Nat} (h : w.heap.size = B) : ((((w.alloc o1).alloc o2).alloc o3).alloc o4).heap[B + 1]? = some o2 := by
  subst h
  rw [Below.heap_alloc _ _ _ (by simp <;> omega), Below.heap_alloc _ _ _ (by simp)]
  have := heap_alloc_new (w.alloc o1) o2
  rwa [World.size_alloc] at this
theorem fourC {w : World} {o1 o2 o3 o4 : Obj} {B : Nat} (h : w.heap.size = B) : ((((w.alloc o1).alloc o2).alloc o3).alloc o4).heap[B + 1 + 1]? = some o3 := by
  subst h
  rw [Below.heap_alloc _ _ _ (by simp)]
  have := heap_alloc_new ((w.alloc o1).alloc o2) o3
  rwa [World.size_alloc, World.size_alloc] at this
theorem fourD {w : World} {o1 o2 o3 o4 : Obj} {B : Nat} (h : w.heap.size = B) : ((((w.alloc o1).alloc o2).alloc o3).alloc o4).heap[B + 1 + 1 + 1]? = some o4 := by
  subst h
  have := heap_alloc_new (((w.alloc o1).alloc o2).alloc o3) o4
  rwa [World.size_alloc, World.size_alloc, World.size_alloc] at this
theorem VarF.fourX {w0 w : World} {N : Nat} {a : Nat} {va : Value} {s : Nat} (hA : Sl w0 va (limbs a)) (hb : Below w0.heap.size w0 w) (h1 : w.heap[N]? = some (.cells #[.bool false, va, .slice (some ⟨s, 0, none⟩) 1 1] 26 (0, 0))) (h2 : w.heap[s]? = some (.cells #[.int .u32 1] 95 (0, 0))) : VarF w.drew N (Wh a) :=
  VarF.drew (VarF.lit (hA.after hb) rfl h1 h2)

set_option maxRecDepth 100000 in
set_option maxHeartbeats 16000000 in
theorem above_t (w : World) (u v : Value) (n a c x y : Nat) (hs : IsSp w u n a c) (h : IsF w v (fr false x y)) :
    Calls Try.prog 42 #[u, v] w fun e w' => ∃ f, e = .returned f ∧ IsAb w' f n a c x y ∧ Below w.heap.size w w' := by
  have HX := h
  obtain ⟨va, vb, rfl, h1, h2⟩ := h
  obtain ⟨p, cp, rfl, _, _⟩ := h1.shape
  obtain ⟨q, cq, rfl, _, _⟩ := h2.shape
  obtain ⟨ua, ub, c2, c9, c10, rfl, g1, g2, hpart⟩ := hs
  obtain ⟨p1, cp1, rfl, _, _⟩ := g1.shape
  obtain ⟨q1, cq1, rfl, _, _⟩ := g2.shape
  obtain ⟨W0, hW, bS, bx, hsz, hb0'⟩ : ∃ W0, W0 = (w.alloc (.cells #[.int .i64 (n : Int), .bool false, .slice p1 (limbs ((a + c) ^ n)).length cp1, .slice q1 (limbs 1).length cq1, .func (.func 51) #[] #[.pointer (some ⟨c2, 0, none⟩), .pointer (some ⟨c9, 0, none⟩), .pointer (some ⟨c10, 0, none⟩)]] 79)).alloc (.cells #[.bool (fr false x y).neg, .slice p (fr false x y).num.length cp, .slice q (fr false x y).den.length cq] 26) ∧ Box W0 w.heap.size #[.int .i64 (n : Int), .bool false, .slice p1 (limbs ((a + c) ^ n)).length cp1, .slice q1 (limbs 1).length cq1, .func (.func 51) #[] #[.pointer (some ⟨c2, 0, none⟩), .pointer (some ⟨c9, 0, none⟩), .pointer (some ⟨c10, 0, none⟩)]] 79 ∧ Box W0 (w.heap.size + 1) #[.bool (fr false x y).neg, .slice p (fr false x y).num.length cp, .slice q (fr false x y).den.length cq] 26 ∧ W0.heap.size = w.heap.size + 2 ∧ Below w.heap.size w W0 := by
    refine ⟨_, rfl, (Box.new w _ _).alloc _, ?_, by simp, held_alloc (held_alloc (Below.refl _ w))⟩
    have := (Box.new (w.alloc (.cells #[.int .i64 (n : Int), .bool false, .slice p1 (limbs ((a + c) ^ n)).length cp1, .slice q1 (limbs 1).length cq1, .func (.func 51) #[] #[.pointer (some ⟨c2, 0, none⟩), .pointer (some ⟨c9, 0, none⟩), .pointer (some ⟨c10, 0, none⟩)]] 79)) #[.bool (fr false x y).neg, .slice p (fr false x y).num.length cp, .slice q (fr false x y).den.length cq] 26)
    simpa using this
  obtain ⟨c0, c1, c2'⟩ := bx.cells3
  have H1 := Lib.hid (HX.after hb0')
  have HB0 := Lib.hid hb0'
  have BX := Lib.hid bx
  have BS := Lib.hid bS
  have G1 := Lib.hid (g1.after hb0')
  have G2 := Lib.hid (g2.after hb0')
  clear HX bx bS hb0' h1 h2 g1 g2 hpart
  go_enter Try.func42, Try.ntmps42
  go_upto_region 1 with fail
  rw [← hW]
  clear hW
  go_cut [5, 6] (fun sx sy wx => ∃ N D : Nat, sx = .pointer (some ⟨N, 0, none⟩) ∧ sy = .pointer (some ⟨D, 0, none⟩) ∧ W0.heap.size ≤ N ∧ W0.heap.size ≤ D ∧ VarF wx N (Wh x) ∧ VarF wx D (Wh y) ∧ Below W0.heap.size W0 wx)
  case first =>
    go_region_held3 (fun w' => w'.cell? ⟨w.heap.size + 1, 0, none⟩ = some (.bool (fr false x y).neg) ∧ w'.cell? ⟨w.heap.size + 1, 1, none⟩ = some (.slice p (fr false x y).num.length cp) ∧ w'.cell? ⟨w.heap.size + 1, 2, none⟩ = some (.slice q (fr false x y).den.length cq))
      (first | ((refine ⟨?_, ?_, ?_⟩ <;> simp [World.cell?_alloc_lt, hsz, c0, c1, c2']); done) | (go_keep; done)) (fail)
    all_goals
      have hA := (H1.out.parts).2.1
      have hB := (H1.out.parts).2.2
      go_wp2_with fail
      go_meet
      case rel =>
        refine ⟨_, _, rfl, rfl, by omega, by omega, ?_, ?_, below_dr (held_alloc (held_alloc (held_alloc (held_alloc (Below.refl _ W0)))))⟩
        · apply VarF.fourX hA (held_alloc (held_alloc (held_alloc (held_alloc (Below.refl _ W0)))))
          (first | with_reducible exact fourA hsz | with_reducible exact fourB hsz | with_reducible exact fourC hsz | with_reducible exact fourD hsz)
          (first | with_reducible exact fourA hsz | with_reducible exact fourB hsz | with_reducible exact fourC hsz | with_reducible exact fourD hsz)
        · apply VarF.fourX hB (held_alloc (held_alloc (held_alloc (held_alloc (Below.refl _ W0)))))
          (first | with_reducible exact fourA hsz | with_reducible exact fourB hsz | with_reducible exact fourC hsz | with_reducible exact fourD hsz)
          (first | with_reducible exact fourA hsz | with_reducible exact fourB hsz | with_reducible exact fourC hsz | with_reducible exact fourD hsz)
  case rest =>
    obtain ⟨N, D, rfl, rfl, hN, hD, hvN, hvD, hbc⟩ := hcut
    have HVN := Lib.hid hvN
    have HVD := Lib.hid hvD
    have HBC := Lib.hid hbc
    have HBS := Lib.hid (BS.out.after hbc)
    have HBX := Lib.hid (BX.out.after hbc)
    have HG1 := Lib.hid (G1.out.after hbc)
    have HG2 := Lib.hid (G2.out.after hbc)
    have HI := Lib.hid (H1.out.after hbc)
    have HW := Lib.hid (HB0.out.trans (hbc.mono HB0.out.size))
    clear hvN hvD hbc c0 c1 c2'
    go_wp2_with fail
    go_ret
    obtain ⟨_, i1, i2⟩ := HI.out.parts
    exact ⟨_, rfl, ⟨D, w.heap.size, N, w.heap.size + 1, _, _, c2, c9, c10, rfl, HVD.out, HBS.out, HG1.out, HG2.out, HVN.out, ⟨_, _, HBX.out, i1, i2⟩⟩, HW.out⟩
end Go.Proofs.Ytebmegodeglobaa
