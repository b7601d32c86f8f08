/- Plain facts for TailsKnown: the greatest numbers. -/
import Derived.Test.YtppehiajocgiiaaQK1
set_option linter.unusedVariables false
namespace Go.Proofs.Ytppehiajocgiiaa

def fact : Nat → Nat
  | 0 => 1
  | n + 1 => (n + 1) * fact n
def prodUp (N : Nat) : Nat → Nat
  | 0 => 1
  | j + 1 => (N + (j + 1)) * prodUp N j
theorem fact_pos : ∀ n, 0 < fact n
  | 0 => by decide
  | n + 1 => Nat.mul_pos (by omega) (fact_pos n)
theorem ch_fact (N : Nat) : ∀ j, ch (N + j) j * fact j = prodUp N j
  | 0 => by rw [Nat.add_zero, ch_zero]; rfl
  | j + 1 => by
    have ih := ch_fact N j
    have h := ch_absorb (N + j) j
    show ch (N + j + 1) (j + 1) * ((j + 1) * fact j) = (N + (j + 1)) * prodUp N j
    rw [← ih, ← Nat.mul_assoc, Nat.mul_comm (ch (N + j + 1) (j + 1)) (j + 1), h, Nat.mul_assoc]
    congr 1
theorem ch_64 : ch 64 32 = 1832624140942590534 := by
  have h := ch_fact 32 32
  have h2 : prodUp 32 32 = 1832624140942590534 * fact 32 := by decide
  rw [h2] at h
  exact Nat.eq_of_mul_eq_mul_right (fact_pos 32) h
theorem limbs_ge {n k : Nat} (h1 : 4294967296 ^ k ≤ n) (h2 : n < 4294967296 ^ (k + 1)) : (limbs n).length = k + 1 := by
  have := limbs_len_lt h2
  have := limbs_len_ge h1
  omega
theorem len_20 : (limbs (1000 ^ 64)).length = 20 := limbs_ge (k := 19) (by decide) (by decide)
theorem cop_999 : Nat.gcd (999 ^ 64) (1000 ^ 64) = 1 := Nat.Coprime.pow 64 64 (by decide)
theorem ex_64 : ex 999 1 64 64 = 999 ^ 64 := by
  unfold ex
  rw [ch_self, Nat.sub_self, Nat.pow_zero, Nat.mul_one, Nat.mul_one]
theorem k_exactly : exactlyF 64 64 (fr false 999 1000) = (fr false (999 ^ 64) (1000 ^ 64), 0) := by
  have := exactlyF_val (n := 64) (k := 64) ok999 (by omega) (by omega) (by omega) (by omega)
  rw [show 1000 - 999 = 1 by decide, ex_64, made_ok] at this
  · exact this
  · refine ⟨?_, by rw [len_20]; omega, Nat.pow_pos (by omega), cop_999, fun _ => rfl⟩
    exact Nat.le_trans (limbs_len_mono (Nat.pow_le_pow_left (show 999 ≤ 1000 by omega) 64)) (by rw [len_20]; omega)
theorem k_dec : decS 1832624140942590534 = ⟨#[49, 56, 51, 50, 54, 50, 52, 49, 52, 48, 57, 52, 50, 53, 57, 48, 53, 51, 52]⟩ := by
  unfold decS
  rw [if_neg (by decide)]
  simp [revd_pos, revd_zero]
theorem k_dec1 : decS 1 = ⟨#[49]⟩ := by
  unfold decS
  rw [if_neg (by decide)]
  simp [revd_pos, revd_zero]
end Go.Proofs.Ytppehiajocgiiaa
