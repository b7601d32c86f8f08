/- CanaryBounded, plain: what it asks holds of all rollouts by small numbers. -/
import Derived.Test.YtjjefdkadgkhfaaQG4
set_option linter.unusedVariables false
namespace Go.Proofs.Ytjjefdkadgkhfaa

theorem bnd_of {R : Ro} (hv : ValidR R) {ρ σ ξ υ a A c C : Nat} (hrate : R.rate = fr false ρ σ) (okr : Ok false ρ σ) (hρσ : ρ ≤ σ) (hbound : R.bound = fr false ξ υ) (okb : Ok false ξ υ) (hξυ : ξ ≤ υ) (hυ : υ ≤ 1000)
    (ok1 : Ok false a A) (ok2 : Ok false c C) (haA : a ≤ A) (hA : A ≤ 1000) (hcC : c ≤ C) (hC : C ≤ 1000) (hle : a * C ≤ c * A) :
    ∃ lo hi cc c2, chanceF R (fr false a A) = (lo, 0) ∧ chanceF R (fr false c C) = (hi, 0) ∧ cmpF lo hi = (cc, 0) ∧ ¬ 0 < cc ∧ cmpF (fr false a A) R.rate = (c2, 0) ∧ (c2 ≤ 0 → ∃ m c3, opF mulN R.bound (ofF (R.waves.length : Int) 1).1 = (m, 0) ∧ cmpF lo m = (c3, 0) ∧ ¬ 0 < c3) := by
  have hN : cum R R.waves.length ≤ 16 := Nat.le_trans (cum_le hv _) hv.2.1
  have hn := waves_le hv
  have g1 := gN_gS hv a (A - a) (Nat.le_refl R.waves.length)
  have g2 := gN_gS hv c (C - c) (Nat.le_refl R.waves.length)
  have e1 : a + (A - a) = A := by omega
  have e2 : c + (C - c) = C := by omega
  rw [e1] at g1
  rw [e2] at g2
  have hg1 : gS R a (A - a) R.waves.length ≤ A ^ cum R R.waves.length := by omega
  have hg2 : gS R c (C - c) R.waves.length ≤ C ^ cum R R.waves.length := by omega
  have f1 := (fq_rep (z := gS R a (A - a) R.waves.length) (d := A ^ cum R R.waves.length) (Nat.pow_pos ok1.pos) (pow_short hA hN hg1) (pow_short hA hN (Nat.le_refl _))).2
  have f2 := (fq_rep (z := gS R c (C - c) R.waves.length) (d := C ^ cum R R.waves.length) (Nat.pow_pos ok2.pos) (pow_short hC hN hg2) (pow_short hC hN (Nat.le_refl _))).2
  refine ⟨_, _, _, _, chance_of hv ok1 haA hA, chance_of hv ok2 hcC hC, rep_cmp f1 f2, ?_, by rw [hrate]; exact rep_cmp (rep_of_ok ok1) (rep_of_ok okr), ?_⟩
  · have h := gS_rise hv (a := a) (c := A - a) (a' := c) (c' := C - c) (by rw [e1, e2]; exact hle) (Nat.le_refl R.waves.length)
    rw [e1, e2] at h
    have h' : ((gS R a (A - a) R.waves.length : Nat) : Int) * ((C ^ cum R R.waves.length : Nat) : Int) ≤ ((gS R c (C - c) R.waves.length : Nat) : Int) * ((A ^ cum R R.waves.length : Nat) : Int) := by exact_mod_cast h
    split
    · omega
    · split <;> omega
  · intro hc2
    have hs : a * σ ≤ ρ * A := by
      have k1 : sg false a = (a : Int) := rfl
      have k2 : sg false ρ = (ρ : Int) := rfl
      rw [k1, k2] at hc2
      by_cases q1 : (a : Int) * (σ : Int) < (ρ : Int) * (A : Int)
      · have : ((a * σ : Nat) : Int) < ((ρ * A : Nat) : Int) := by push_cast; exact q1
        omega
      · by_cases q2 : (a : Int) * (σ : Int) = (ρ : Int) * (A : Int)
        · have : ((a * σ : Nat) : Int) = ((ρ * A : Nat) : Int) := by push_cast; exact q2
          omega
        · rw [if_neg q1, if_neg q2] at hc2; omega
    have hnl : (limbs R.waves.length).length ≤ 32 := Nat.le_trans (limbs_len_lt (k := 1) (by omega)) (by omega)
    have hmul : R.waves.length * ξ < 2 ^ (32 * 1) := by
      have : R.waves.length * ξ ≤ 16 * 1000 := Nat.mul_le_mul hn (by omega)
      omega
    have hzl : (limbs (ξ * R.waves.length)).length ≤ 32 := by
      rw [Nat.mul_comm]; exact Nat.le_trans (limbs_len_lt (k := 1) hmul) (by omega)
    obtain ⟨h1, h2⟩ := fq_rep (z := ξ * R.waves.length) (d := υ) okb.pos hzl okb.d32
    have hm : opF mulN R.bound (ofF (R.waves.length : Int) 1).1 = (FQ (ξ * R.waves.length) υ, 0) := by
      rw [of_wh hnl, hbound]
      show opF mulN (fr false ξ υ) (fr false R.waves.length 1) = _
      rw [rep_mul (rep_of_ok okb) (rep_of_ok (ok_wh hnl)), ← h1]
      have k1 : sg false ξ = (ξ : Int) := rfl
      have k2 : sg false R.waves.length = (R.waves.length : Int) := rfl
      rw [k1, k2, Nat.mul_one]
      push_cast
      rfl
    refine ⟨_, _, hm, rep_cmp f1 h2, ?_⟩
    have hb := gS_bound hv hrate hbound hρσ okr.pos (a := a) (c := A - a) (by rw [e1]; exact hs) (Nat.le_refl R.waves.length)
    rw [e1] at hb
    have hb' : ((gS R a (A - a) R.waves.length : Nat) : Int) * (υ : Int) ≤ ((ξ * R.waves.length : Nat) : Int) * ((A ^ cum R R.waves.length : Nat) : Int) := by
      rw [Nat.mul_comm ξ]
      exact_mod_cast hb
    split
    · omega
    · split <;> omega

theorem bnd_made (h : Nat) (ws : List Nat) (r0 r1 b0 b1 a0 a1 c0 c1 : Nat) : Bnd (madeR h ws r0 r1 b0 b1 10) (partF2 a0 a1) (partF2 c0 c1) := by
  have hv := madeR_valid h ws r0 r1 b0 b1 (most := 10) (by omega) (by omega)
  obtain ⟨ρ, σ, er, okr, hr1, hr2, _⟩ := part_ok r0 r1
  obtain ⟨ξ, υ, eb, okb, hb1, hb2, _⟩ := part_ok b0 b1
  obtain ⟨a, A, ea, oka, ha1, ha2, _⟩ := part_ok a0 a1
  obtain ⟨c, C, ec, okc, hc1, hc2, _⟩ := part_ok c0 c1
  obtain ⟨R, hR⟩ : ∃ R, madeR h ws r0 r1 b0 b1 10 = R := ⟨_, rfl⟩
  have hrate : R.rate = fr false ρ σ := by rw [← hR, ← er]; rfl
  have hbound : R.bound = fr false ξ υ := by rw [← hR, ← eb]; rfl
  rw [hR] at hv ⊢
  rw [ea, ec]
  have hcmp := rep_cmp (rep_of_ok oka) (rep_of_ok okc)
  have k1 : sg false a = (a : Int) := rfl
  have k2 : sg false c = (c : Int) := rfl
  rw [k1, k2] at hcmp
  have m1 : ((a * C : Nat) : Int) = (a : Int) * (C : Int) := by push_cast; rfl
  have m2 : ((c * A : Nat) : Int) = (c : Int) * (A : Int) := by push_cast; rfl
  by_cases hle : a * C ≤ c * A
  · obtain ⟨lo, hi, cc, c2, h1⟩ := bnd_of hv hrate okr hr1 hbound okb hb1 hb2 oka okc ha1 ha2 hc1 hc2 hle
    refine ⟨_, _, lo, hi, cc, c2, ⟨_, hcmp, .inr ⟨?_, rfl, rfl⟩⟩, h1⟩
    rw [← m1, ← m2]
    split
    · omega
    · split <;> omega
  · obtain ⟨lo, hi, cc, c2, h1⟩ := bnd_of hv hrate okr hr1 hbound okb hb1 hb2 okc oka hc1 hc2 ha1 ha2 (by omega)
    refine ⟨_, _, lo, hi, cc, c2, ⟨_, hcmp, .inl ⟨?_, rfl, rfl⟩⟩, h1⟩
    rw [← m1, ← m2, if_neg (by omega), if_neg (by omega)]
    omega
end Go.Proofs.Ytjjefdkadgkhfaa
