/- Numbers as decimal digits, the least first. No program in sight. -/
import Derived.Test.YtppehiajocgiiaaK01
set_option linter.unusedVariables false
namespace Go.Proofs.Ytppehiajocgiiaa

/-- The digits of a number as bytes, the least first; none for 0. -/
def revd (n : Nat) : List Nat := if n = 0 then [] else (48 + n % 10) :: revd (n / 10)
termination_by n
decreasing_by omega

theorem revd_zero : revd 0 = [] := by rw [revd]; simp
theorem revd_pos {n : Nat} (h : 0 < n) : revd n = (48 + n % 10) :: revd (n / 10) := by
  rw [revd, if_neg (by omega)]
theorem revd_lt : ∀ (n x : Nat), x ∈ revd n → 48 ≤ x ∧ x < 58 := by
  intro n
  induction n using Nat.strongRecOn with
  | _ n ih =>
    intro x hx
    rcases Nat.eq_zero_or_pos n with h | h
    · subst h; rw [revd_zero] at hx; cases hx
    · rw [revd_pos h] at hx
      rcases List.mem_cons.1 hx with rfl | h1
      · omega
      · exact ih (n / 10) (by omega) x h1
theorem revd_len : ∀ (k n : Nat), n < 10 ^ k → (revd n).length ≤ k
  | 0, n, h => by
    have : n = 0 := by simpa using h
    subst this; rw [revd_zero]; simp
  | k + 1, n, h => by
    rcases Nat.eq_zero_or_pos n with h0 | h0
    · subst h0; rw [revd_zero]; simp
    · rw [revd_pos h0]
      have := revd_len k (n / 10) (by rw [Nat.pow_succ] at h; omega)
      simp; omega
theorem revd_limbs {n : Nat} : (revd n).length ≤ 10 * (limbs n).length := by
  refine revd_len _ n (Nat.lt_of_lt_of_le (lt_limbs n) ?_)
  rw [Nat.pow_mul]
  exact Nat.pow_le_pow_left (by omega) _
/-- One digit more: of a' and the part d below 10 ^ (j + 1). -/
theorem revd_step {a d j : Nat} (h : 0 < a * 10 ^ (j + 1) + d) : revd (a * 10 ^ (j + 1) + d) = (48 + d % 10) :: revd (a * 10 ^ j + d / 10) := by
  rw [revd_pos h]
  have e : a * 10 ^ (j + 1) = 10 * (a * 10 ^ j) := by rw [Nat.pow_succ]; ac_rfl
  rw [e]
  congr 2
  · omega
  · congr 1; omega
/-- What decimal returns. -/
def decS (n : Nat) : ByteArray := if n = 0 then ⟨#[48]⟩ else ⟨((revd n).reverse.map UInt8.ofNat).toArray⟩
end Go.Proofs.Ytppehiajocgiiaa
