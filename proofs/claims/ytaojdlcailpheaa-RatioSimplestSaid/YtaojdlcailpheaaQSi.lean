/- Plain: the simplest fraction of an interval, by value. -/
import Derived.Test.YtaojdlcailpheaaK28
import Derived.Test.YtaojdlcailpheaaK19
set_option linter.unusedVariables false
namespace Go.Proofs.Ytaojdlcailpheaa
open Go.RowKit

theorem le_by {A z P : Int} {b d q : Nat} (hb : 0 < b) (hd : 0 < d) (h : A * d = z * b) : A * q ≤ P * b ↔ z * q ≤ P * d := by
  have hb' : (0 : Int) < b := by omega
  have hd' : (0 : Int) < d := by omega
  have e1 : A * q * d = z * q * b := by grind
  have e2 : P * b * d = P * d * b := by grind
  constructor
  · intro g
    have g1 := Int.mul_le_mul_of_nonneg_right g (Int.le_of_lt hd')
    rw [e1, e2] at g1
    exact Int.le_of_mul_le_mul_right g1 hb'
  · intro g
    have g1 := Int.mul_le_mul_of_nonneg_right g (Int.le_of_lt hb')
    rw [← e1, ← e2] at g1
    exact Int.le_of_mul_le_mul_right g1 hd'
theorem ge_by {A z P : Int} {b d q : Nat} (hb : 0 < b) (hd : 0 < d) (h : A * d = z * b) : P * b ≤ A * q ↔ P * d ≤ z * q := by
  have hb' : (0 : Int) < b := by omega
  have hd' : (0 : Int) < d := by omega
  have e1 : A * q * d = z * q * b := by grind
  have e2 : P * b * d = P * d * b := by grind
  constructor
  · intro g
    have g1 := Int.mul_le_mul_of_nonneg_right g (Int.le_of_lt hd')
    rw [e1, e2] at g1
    exact Int.le_of_mul_le_mul_right g1 hb'
  · intro g
    have g1 := Int.mul_le_mul_of_nonneg_right g (Int.le_of_lt hb')
    rw [← e1, ← e2] at g1
    exact Int.le_of_mul_le_mul_right g1 hd'
/-- It lies in the interval [A / b, C / e], and what lies there has neither a lesser denominator nor a lesser size of numerator. -/
def SimpZ (A : Int) (b : Nat) (C : Int) (e : Nat) (s : Bool) (p q : Nat) : Prop :=
  Ok s p q ∧ A * q ≤ sg s p * b ∧ sg s p * e ≤ C * q ∧ ∀ (n : Int) (k : Nat), 0 < k → A * k ≤ n * b → n * e ≤ C * k → q ≤ k ∧ p ≤ n.natAbs
theorem simp_ok {s t : Bool} {a b c e : Nat} (h : Ok s a b) (k : Ok t c e) (hle : sg s a * e ≤ sg t c * b) :
    ∃ u p q, simplestF (fr s a b) (fr t c e) = (fr u p q, 0) ∧ SimpZ (sg s a) b (sg t c) e u p q := by
  have hb := h.pos
  have he := k.pos
  have hord : ¬ 0 < ordN s a b t c e := by
    rw [ordN_sg s t a b c e hb he h.sign k.sign]
    by_cases g1 : sg s a * e < sg t c * b
    · rw [if_pos g1]; decide
    · rw [if_neg g1, if_pos (by omega)]; decide
  rw [simplestF_fr h k, if_neg hord]
  clear hord
  have c1 : ((c * b : Nat) : Int) = (c : Int) * b := by push_cast; rfl
  have c2 : ((a * e : Nat) : Int) = (a : Int) * e := by push_cast; rfl
  cases t with
  | true =>
    rw [if_pos rfl]
    have hc : 0 < c := by
      rcases Nat.eq_zero_or_pos c with g | g
      · have := k.sign g; cases this
      · exact g
    have hcb := Nat.mul_pos hc hb
    cases s with
    | false =>
      exfalso
      unfold sg at hle
      simp only [Bool.false_eq_true, if_false, if_true, Int.neg_mul, ← c1, ← c2] at hle
      omega
    | true =>
      have hle' : c * b ≤ a * e := by
        unfold sg at hle
        simp only [if_true, Int.neg_mul, ← c1, ← c2] at hle
        omega
      obtain ⟨m1, m2, m3, m4⟩ := simp_min _ c e a b rfl he hb hle'
      have hp := simp_pos hc he hb hle'
      obtain ⟨l1, l2⟩ := simp_len he hb hle' k.n32 k.d32
      have hg := simp_coprime he hb hle'
      generalize hP : (simpN c e a b).1 = p at *
      generalize hQ : (simpN c e a b).2 = q at *
      refine ⟨true, p, q, rfl, ⟨l1, l2, m1, hg, fun e => by omega⟩, ?_, ?_, ?_⟩
      · have d1 : ((p * b : Nat) : Int) = (p : Int) * b := by push_cast; rfl
        have d2 : ((a * q : Nat) : Int) = (a : Int) * q := by push_cast; rfl
        unfold sg
        simp only [if_true, Int.neg_mul, ← d1, ← d2]
        omega
      · have d1 : ((p * e : Nat) : Int) = (p : Int) * e := by push_cast; rfl
        have d2 : ((c * q : Nat) : Int) = (c : Int) * q := by push_cast; rfl
        unfold sg
        simp only [if_true, Int.neg_mul, ← d1, ← d2]
        omega
      · intro n k' hk' g1 g2
        unfold sg at g1 g2
        simp only [if_true] at g1 g2
        have hk0 : (0 : Int) < k' := by omega
        have hn : n < 0 := by
          rcases Int.lt_or_le n 0 with g | g
          · exact g
          · exfalso
            have g3 : 0 ≤ n * e := Int.mul_nonneg g (by omega)
            have g4 : (0 : Int) < c * k' := Int.mul_pos (by omega) hk0
            rw [Int.neg_mul] at g2
            omega
        obtain ⟨m, rfl⟩ : ∃ m : Nat, n = -(m : Int) := ⟨n.natAbs, by omega⟩
        have d1 : ((m * b : Nat) : Int) = (m : Int) * b := by push_cast; rfl
        have d2 : ((a * k' : Nat) : Int) = (a : Int) * k' := by push_cast; rfl
        have d3 : ((m * e : Nat) : Int) = (m : Int) * e := by push_cast; rfl
        have d4 : ((c * k' : Nat) : Int) = (c : Int) * k' := by push_cast; rfl
        simp only [Int.neg_mul, ← d1, ← d2, ← d3, ← d4] at g1 g2
        have := m4 m k' hk' (by omega) (by omega)
        rw [Int.natAbs_neg, Int.natAbs_natCast]
        exact this
  | false =>
    rw [if_neg (by simp)]
    by_cases hz : s = true ∨ a = 0
    · rw [if_pos hz]
      have hok : Ok false 0 1 := ⟨by simp [limbs_zero], by rw [limbs_one]; simp, by omega, by simp, fun _ => rfl⟩
      refine ⟨false, 0, 1, rfl, hok, ?_, ?_, fun n k' hk' _ _ => ⟨hk', Nat.zero_le _⟩⟩
      · have h0 : sg false 0 = 0 := rfl
        rw [h0]
        have : sg s a ≤ 0 := by
          unfold sg
          rcases hz with hz | hz
          · subst hz; simp
          · subst hz; split <;> simp
        omega
      · have h0 : sg false 0 = 0 := rfl
        have h1 : sg false c = c := rfl
        rw [h0, h1]
        omega
    · rw [if_neg hz]
      obtain ⟨hs, ha⟩ : s = false ∧ 0 < a := by
        constructor
        · cases s <;> simp_all
        · exact Nat.pos_of_ne_zero (fun e => hz (.inr e))
      subst hs
      have hle' : a * e ≤ c * b := by
        unfold sg at hle
        simp only [Bool.false_eq_true, if_false, ← c1, ← c2] at hle
        omega
      obtain ⟨m1, m2, m3, m4⟩ := simp_min _ a b c e rfl hb he hle'
      have hp := simp_pos ha hb he hle'
      obtain ⟨l1, l2⟩ := simp_len hb he hle' h.n32 h.d32
      have hg := simp_coprime hb he hle'
      generalize hP : (simpN a b c e).1 = p at *
      generalize hQ : (simpN a b c e).2 = q at *
      refine ⟨false, p, q, rfl, ⟨l1, l2, m1, hg, fun e => by omega⟩, ?_, ?_, ?_⟩
      · show (a : Int) * q ≤ (p : Int) * b
        exact_mod_cast m2
      · show (p : Int) * e ≤ (c : Int) * q
        exact_mod_cast m3
      · intro n k' hk' g1 g2
        have g1 : (a : Int) * k' ≤ n * b := g1
        have g2 : n * e ≤ (c : Int) * k' := g2
        have hk0 : (0 : Int) < k' := by omega
        have hn : 0 < n := by
          rcases Int.lt_or_le 0 n with g | g
          · exact g
          · exfalso
            have g3 : n * b ≤ 0 := Int.mul_nonpos_of_nonpos_of_nonneg g (by omega)
            have g4 : (0 : Int) < a * k' := Int.mul_pos (by omega) hk0
            omega
        obtain ⟨m, rfl⟩ : ∃ m : Nat, n = (m : Int) := ⟨n.natAbs, by omega⟩
        have := m4 m k' hk' (by exact_mod_cast g1) (by exact_mod_cast g2)
        rw [Int.natAbs_natCast]
        exact this
/-- By the values of the ends. -/
theorem simp_rep {x y : F} {z z' : Int} {d d' : Nat} (h : Rep x z d) (k : Rep y z' d') (hle : z * d' ≤ z' * d) :
    ∃ u p q, simplestF x y = (fr u p q, 0) ∧ SimpZ z d z' d' u p q := by
  obtain ⟨hd, s, a, b, rfl, hk, h1⟩ := h
  obtain ⟨hd', t, c, e, rfl, hk', h2⟩ := k
  have hle' : sg s a * e ≤ sg t c * b := by
    have g1 : sg s a * (d' * e : Nat) ≤ (z' * e) * b := by
      rw [le_by hk.pos hd h1]
      have g2 := Int.mul_le_mul_of_nonneg_right hle (show (0 : Int) ≤ e by omega)
      have e1 : z * (d' * e : Nat) = z * d' * e := by push_cast; grind
      have e2 : z' * e * d = z' * d * e := by grind
      rw [e1, e2]; exact g2
    rw [← h2] at g1
    have e1 : sg s a * (d' * e : Nat) = sg s a * e * d' := by push_cast; grind
    have e2 : sg t c * d' * b = sg t c * b * d' := by grind
    rw [e1, e2] at g1
    exact Int.le_of_mul_le_mul_right g1 (by omega)
  obtain ⟨u, p, q, e1, o, q1, q2, q3⟩ := simp_ok hk hk' hle'
  refine ⟨u, p, q, e1, o, (le_by hk.pos hd h1).1 q1, (ge_by hk'.pos hd' h2).1 q2, fun n k hk0 g1 g2 => q3 n k hk0 ((le_by hk.pos hd h1).2 g1) ((ge_by hk'.pos hd' h2).2 g2)⟩
end Go.Proofs.Ytaojdlcailpheaa
