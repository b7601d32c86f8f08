/- RatioSimplest: the cases joined. -/
import Derived.Test.YtaojdlcailpheaaQM10
set_option linter.unusedVariables false
namespace Go.Proofs.Ytaojdlcailpheaa
open Go.RowKit

theorem simplest_walk (w : World) (a b c d e f' : Int) (a0 : -32768 ≤ a) (a1 : a ≤ 32767) (b0 : -32768 ≤ b) (b1 : b ≤ 32767) (c0 : -32768 ≤ c) (c1 : c ≤ 32767) (d0 : -32768 ≤ d) (d1 : d ≤ 32767) (e0 : -32768 ≤ e) (e1 : e ≤ 32767) (f0 : -32768 ≤ f') (f1 : f' ≤ 32767) :
    Calls Try.prog 10 #[.agg #[.int .i16 a, .int .i16 b, .int .i16 c, .int .i16 d, .int .i16 e, .int .i16 f']] w fun e w' => e = .returned (.bool true) ∧ Below w.heap.size w w' := by
  obtain ⟨A, hA⟩ : ∃ A, a.tmod 300 = A := ⟨_, rfl⟩
  obtain ⟨C, hC⟩ : ∃ C, c.tmod 300 = C := ⟨_, rfl⟩
  obtain ⟨B1, hB1⟩ : ∃ B1, bits .and .i64 b 1023 = B1 := ⟨_, rfl⟩
  obtain ⟨D1, hD1⟩ : ∃ D1, bits .and .i64 d 1023 = D1 := ⟨_, rfl⟩
  have tA := tmod_bd a (show (0 : Int) < 300 by decide)
  have tC := tmod_bd c (show (0 : Int) < 300 by decide)
  rw [hA] at tA
  rw [hC] at tC
  have tB1 : 0 ≤ B1 ∧ B1 ≤ 1023 := by rw [← hB1, i64_and1023]; omega
  have tD1 : 0 ≤ D1 ∧ D1 ≤ 1023 := by rw [← hD1, i64_and1023]; omega
  obtain ⟨B2, hB2⟩ : ∃ B2, B1.tmod 60 = B2 := ⟨_, rfl⟩
  obtain ⟨D2, hD2⟩ : ∃ D2, D1.tmod 60 = D2 := ⟨_, rfl⟩
  have hB3 : B1 % 60 = B2 := by rw [← hB2, Int.tmod_eq_emod_of_nonneg tB1.1]
  have hD3 : D1 % 60 = D2 := by rw [← hD2, Int.tmod_eq_emod_of_nonneg tD1.1]
  obtain ⟨B, hB⟩ : ∃ B, 1 + B2 = B := ⟨_, rfl⟩
  obtain ⟨D, hD⟩ : ∃ D, 1 + D2 = D := ⟨_, rfl⟩
  have bA := And.intro (show -299 ≤ A by omega) (show A ≤ 299 by omega)
  have bC := And.intro (show -299 ≤ C by omega) (show C ≤ 299 by omega)
  have bB2 := And.intro (show 0 ≤ B2 by omega) (show B2 ≤ 59 by omega)
  have bD2 := And.intro (show 0 ≤ D2 by omega) (show D2 ≤ 59 by omega)
  have bB := And.intro (show 1 ≤ B by omega) (show B ≤ 60 by omega)
  have bD := And.intro (show 1 ≤ D by omega) (show D ≤ 60 by omega)
  have big : ∀ {x y : Int}, -300 ≤ x → x ≤ 300 → -60 ≤ y → y ≤ 60 → -18000 ≤ x * y ∧ x * y ≤ 18000 := fun h1 h2 h3 h4 => mulb (X := 300) (Y := 60) h1 h2 h3 h4
  have pAD := big (x := A) (y := D) (by omega) (by omega) (by omega) (by omega)
  have pCB := big (x := C) (y := B) (by omega) (by omega) (by omega) (by omega)
  have two : ∀ k : Int, 1 ≤ k → k ≤ 60 → -60 ≤ k ∧ k ≤ 60 := fun k h1 h2 => ⟨by omega, h2⟩
  by_cases hsw : C * B < A * D
  · obtain ⟨LO, HI, s, p, q, e1, e2, e3, ok, q60, p300, n1, n2, hl, hm⟩ := simp_law (a := C) (b := D) (c := A) (d := B) (by omega) (by omega) (by omega) (by omega) (by omega) (by omega) (by omega) (by omega) (by omega)
    have hq0 : 1 ≤ q := ok.pos
    have hdw : decide (C * B < A * D) = true := decide_eq_true hsw
    have bq := two (q : Int) (by omega) (by omega)
    have pxk := big (x := C) (y := (q : Int)) (by omega) (by omega) bq.1 bq.2
    have puk := big (x := A) (y := (q : Int)) (by omega) (by omega) bq.1 bq.2
    have HQ : Hid (limbs q = [q]) := limbs_small ok.pos (by omega)
    have hq2 : decide (60 < q) = false := decide_eq_false (by omega)
    have HLP : Hid (∀ j : Nat, 1 ≤ j → j < q → decide (C * (j : Int) ≤ A * (j : Int) / B * D) = false) := fun j h1 h2 => decide_eq_false (hl j h1 h2)
    have HV : Hid (ValidF (fr s p q)) := validF_fr.2 ok
    cases s with
    | true =>
      have hp : p ≠ 0 := fun h => by have := ok.sign h; cases this
      have n1 : ¬ -(p : Int) * D < C * q := n1
      have n2 : ¬ A * q < -(p : Int) * B := n2
      have hp0 : 0 < p := by omega
      have pny := big (x := -(p : Int)) (y := D) (by omega) (by omega) (by omega) (by omega)
      have pnv := big (x := -(p : Int)) (y := B) (by omega) (by omega) (by omega) (by omega)
      have pmy := big (x := (-(p : Int) + 1)) (y := D) (by omega) (by omega) (by omega) (by omega)
      have pmv := big (x := (-(p : Int) + 1)) (y := B) (by omega) (by omega) (by omega) (by omega)
      have HM : Hid (decide ((-(p : Int) + 1) * D < C * (q : Int)) = true ∨ decide ((-(p : Int) + 1) * D < C * (q : Int)) = false ∧ decide (A * (q : Int) < (-(p : Int) + 1) * B) = true) := by
        show _ ∨ _
        by_cases g : (-(p : Int) + 1) * D < C * (q : Int)
        · exact .inl (decide_eq_true g)
        · rcases hm (-(p : Int) + 1) (by omega) with g' | g'
          · exact absurd g' g
          · exact .inr ⟨decide_eq_false g, decide_eq_true g'⟩
      exact simplest_1n w a b c d e f' a0 a1 b0 b1 c0 c1 d0 d1 A B1 B2 B C D1 D2 D (q : Int) q p LO HI hA hB1 hB2 hB3 hB hC hD1 hD2 hD3 hD bA.1 bA.2 tB1.1 tB1.2 bB2.1 bB2.2 bB.1 bB.2 bC.1 bC.2 tD1.1 tD1.2 bD2.1 bD2.2 bD.1 bD.2 pAD.1 pAD.2 pCB.1 pCB.2 hdw (Lib.hid e1) (Lib.hid e2) (Lib.hid e3) HV HQ hq0 q60 hq2 rfl (by omega) (by omega) pxk.1 pxk.2 puk.1 puk.2 (-(p : Int)) (-(p : Int) + 1) hp0 p300 (limbs_small hp0 (by omega)) rfl (by omega) (by omega) rfl (by omega) (by omega) (decide_eq_true (by omega)) (beq_eq_false_iff_ne.2 (by omega)) pny.1 pny.2 pnv.1 pnv.2 (decide_eq_false n1) (decide_eq_false n2) pmy.1 pmy.2 pmv.1 pmv.2 HM HLP
    | false =>
      have n1 : ¬ (p : Int) * D < C * q := n1
      have n2 : ¬ A * q < (p : Int) * B := n2
      by_cases hp : p = 0
      · subst hp
        rw [show ((0 : Nat) : Int) = 0 from rfl, Int.zero_mul] at n1 n2
        exact simplest_1z w a b c d e f' a0 a1 b0 b1 c0 c1 d0 d1 A B1 B2 B C D1 D2 D (q : Int) q LO HI hA hB1 hB2 hB3 hB hC hD1 hD2 hD3 hD bA.1 bA.2 tB1.1 tB1.2 bB2.1 bB2.2 bB.1 bB.2 bC.1 bC.2 tD1.1 tD1.2 bD2.1 bD2.2 bD.1 bD.2 pAD.1 pAD.2 pCB.1 pCB.2 hdw (Lib.hid e1) (Lib.hid e2) (Lib.hid e3) HV HQ hq0 q60 hq2 rfl (by omega) (by omega) pxk.1 pxk.2 puk.1 puk.2 (decide_eq_false n1) (decide_eq_false n2) HLP
      · have hp0 : 0 < p := by omega
        have pny := big (x := (p : Int)) (y := D) (by omega) (by omega) (by omega) (by omega)
        have pnv := big (x := (p : Int)) (y := B) (by omega) (by omega) (by omega) (by omega)
        have pmy := big (x := ((p : Int) - 1)) (y := D) (by omega) (by omega) (by omega) (by omega)
        have pmv := big (x := ((p : Int) - 1)) (y := B) (by omega) (by omega) (by omega) (by omega)
        have HM : Hid (decide (((p : Int) - 1) * D < C * (q : Int)) = true ∨ decide (((p : Int) - 1) * D < C * (q : Int)) = false ∧ decide (A * (q : Int) < ((p : Int) - 1) * B) = true) := by
          show _ ∨ _
          by_cases g : ((p : Int) - 1) * D < C * (q : Int)
          · exact .inl (decide_eq_true g)
          · rcases hm ((p : Int) - 1) (by omega) with g' | g'
            · exact absurd g' g
            · exact .inr ⟨decide_eq_false g, decide_eq_true g'⟩
        exact simplest_1p w a b c d e f' a0 a1 b0 b1 c0 c1 d0 d1 A B1 B2 B C D1 D2 D (q : Int) q p LO HI hA hB1 hB2 hB3 hB hC hD1 hD2 hD3 hD bA.1 bA.2 tB1.1 tB1.2 bB2.1 bB2.2 bB.1 bB.2 bC.1 bC.2 tD1.1 tD1.2 bD2.1 bD2.2 bD.1 bD.2 pAD.1 pAD.2 pCB.1 pCB.2 hdw (Lib.hid e1) (Lib.hid e2) (Lib.hid e3) HV HQ hq0 q60 hq2 rfl (by omega) (by omega) pxk.1 pxk.2 puk.1 puk.2 ((p : Int)) ((p : Int) - 1) hp0 p300 (limbs_small hp0 (by omega)) rfl (by omega) (by omega) rfl (by omega) (by omega) (decide_eq_false (by omega)) (beq_eq_false_iff_ne.2 (by omega)) pny.1 pny.2 pnv.1 pnv.2 (decide_eq_false n1) (decide_eq_false n2) pmy.1 pmy.2 pmv.1 pmv.2 HM HLP
  · obtain ⟨LO, HI, s, p, q, e1, e2, e3, ok, q60, p300, n1, n2, hl, hm⟩ := simp_law (a := A) (b := B) (c := C) (d := D) (by omega) (by omega) (by omega) (by omega) (by omega) (by omega) (by omega) (by omega) (by omega)
    have hq0 : 1 ≤ q := ok.pos
    have hdw : decide (C * B < A * D) = false := decide_eq_false hsw
    have bq := two (q : Int) (by omega) (by omega)
    have pxk := big (x := A) (y := (q : Int)) (by omega) (by omega) bq.1 bq.2
    have puk := big (x := C) (y := (q : Int)) (by omega) (by omega) bq.1 bq.2
    have HQ : Hid (limbs q = [q]) := limbs_small ok.pos (by omega)
    have hq2 : decide (60 < q) = false := decide_eq_false (by omega)
    have HLP : Hid (∀ j : Nat, 1 ≤ j → j < q → decide (A * (j : Int) ≤ C * (j : Int) / D * B) = false) := fun j h1 h2 => decide_eq_false (hl j h1 h2)
    have HV : Hid (ValidF (fr s p q)) := validF_fr.2 ok
    cases s with
    | true =>
      have hp : p ≠ 0 := fun h => by have := ok.sign h; cases this
      have n1 : ¬ -(p : Int) * B < A * q := n1
      have n2 : ¬ C * q < -(p : Int) * D := n2
      have hp0 : 0 < p := by omega
      have pny := big (x := -(p : Int)) (y := B) (by omega) (by omega) (by omega) (by omega)
      have pnv := big (x := -(p : Int)) (y := D) (by omega) (by omega) (by omega) (by omega)
      have pmy := big (x := (-(p : Int) + 1)) (y := B) (by omega) (by omega) (by omega) (by omega)
      have pmv := big (x := (-(p : Int) + 1)) (y := D) (by omega) (by omega) (by omega) (by omega)
      have HM : Hid (decide ((-(p : Int) + 1) * B < A * (q : Int)) = true ∨ decide ((-(p : Int) + 1) * B < A * (q : Int)) = false ∧ decide (C * (q : Int) < (-(p : Int) + 1) * D) = true) := by
        show _ ∨ _
        by_cases g : (-(p : Int) + 1) * B < A * (q : Int)
        · exact .inl (decide_eq_true g)
        · rcases hm (-(p : Int) + 1) (by omega) with g' | g'
          · exact absurd g' g
          · exact .inr ⟨decide_eq_false g, decide_eq_true g'⟩
      exact simplest_0n w a b c d e f' a0 a1 b0 b1 c0 c1 d0 d1 A B1 B2 B C D1 D2 D (q : Int) q p LO HI hA hB1 hB2 hB3 hB hC hD1 hD2 hD3 hD bA.1 bA.2 tB1.1 tB1.2 bB2.1 bB2.2 bB.1 bB.2 bC.1 bC.2 tD1.1 tD1.2 bD2.1 bD2.2 bD.1 bD.2 pAD.1 pAD.2 pCB.1 pCB.2 hdw (Lib.hid e1) (Lib.hid e2) (Lib.hid e3) HV HQ hq0 q60 hq2 rfl (by omega) (by omega) pxk.1 pxk.2 puk.1 puk.2 (-(p : Int)) (-(p : Int) + 1) hp0 p300 (limbs_small hp0 (by omega)) rfl (by omega) (by omega) rfl (by omega) (by omega) (decide_eq_true (by omega)) (beq_eq_false_iff_ne.2 (by omega)) pny.1 pny.2 pnv.1 pnv.2 (decide_eq_false n1) (decide_eq_false n2) pmy.1 pmy.2 pmv.1 pmv.2 HM HLP
    | false =>
      have n1 : ¬ (p : Int) * B < A * q := n1
      have n2 : ¬ C * q < (p : Int) * D := n2
      by_cases hp : p = 0
      · subst hp
        rw [show ((0 : Nat) : Int) = 0 from rfl, Int.zero_mul] at n1 n2
        exact simplest_0z w a b c d e f' a0 a1 b0 b1 c0 c1 d0 d1 A B1 B2 B C D1 D2 D (q : Int) q LO HI hA hB1 hB2 hB3 hB hC hD1 hD2 hD3 hD bA.1 bA.2 tB1.1 tB1.2 bB2.1 bB2.2 bB.1 bB.2 bC.1 bC.2 tD1.1 tD1.2 bD2.1 bD2.2 bD.1 bD.2 pAD.1 pAD.2 pCB.1 pCB.2 hdw (Lib.hid e1) (Lib.hid e2) (Lib.hid e3) HV HQ hq0 q60 hq2 rfl (by omega) (by omega) pxk.1 pxk.2 puk.1 puk.2 (decide_eq_false n1) (decide_eq_false n2) HLP
      · have hp0 : 0 < p := by omega
        have pny := big (x := (p : Int)) (y := B) (by omega) (by omega) (by omega) (by omega)
        have pnv := big (x := (p : Int)) (y := D) (by omega) (by omega) (by omega) (by omega)
        have pmy := big (x := ((p : Int) - 1)) (y := B) (by omega) (by omega) (by omega) (by omega)
        have pmv := big (x := ((p : Int) - 1)) (y := D) (by omega) (by omega) (by omega) (by omega)
        have HM : Hid (decide (((p : Int) - 1) * B < A * (q : Int)) = true ∨ decide (((p : Int) - 1) * B < A * (q : Int)) = false ∧ decide (C * (q : Int) < ((p : Int) - 1) * D) = true) := by
          show _ ∨ _
          by_cases g : ((p : Int) - 1) * B < A * (q : Int)
          · exact .inl (decide_eq_true g)
          · rcases hm ((p : Int) - 1) (by omega) with g' | g'
            · exact absurd g' g
            · exact .inr ⟨decide_eq_false g, decide_eq_true g'⟩
        exact simplest_0p w a b c d e f' a0 a1 b0 b1 c0 c1 d0 d1 A B1 B2 B C D1 D2 D (q : Int) q p LO HI hA hB1 hB2 hB3 hB hC hD1 hD2 hD3 hD bA.1 bA.2 tB1.1 tB1.2 bB2.1 bB2.2 bB.1 bB.2 bC.1 bC.2 tD1.1 tD1.2 bD2.1 bD2.2 bD.1 bD.2 pAD.1 pAD.2 pCB.1 pCB.2 hdw (Lib.hid e1) (Lib.hid e2) (Lib.hid e3) HV HQ hq0 q60 hq2 rfl (by omega) (by omega) pxk.1 pxk.2 puk.1 puk.2 ((p : Int)) ((p : Int) - 1) hp0 p300 (limbs_small hp0 (by omega)) rfl (by omega) (by omega) rfl (by omega) (by omega) (decide_eq_false (by omega)) (beq_eq_false_iff_ne.2 (by omega)) pny.1 pny.2 pnv.1 pnv.2 (decide_eq_false n1) (decide_eq_false n2) pmy.1 pmy.2 pmv.1 pmv.2 HM HLP
end Go.Proofs.Ytaojdlcailpheaa
