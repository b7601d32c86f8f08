/- Plain: what RatioSimplest asks of Simplest. -/
import Derived.Test.YtaojdlcailpheaaQSi
import Derived.Test.YtaojdlcailpheaaK29
import Derived.Test.YtaojdlcailpheaaQLf
set_option linter.unusedVariables false
namespace Go.Proofs.Ytaojdlcailpheaa
open Go.RowKit

theorem ofF_pos {a b : Int} (hb : 0 < b) : ofF a b = madeZ a b.natAbs := by
  unfold ofF
  rw [if_neg (by omega)]
  unfold madeZ
  rw [show decide (b < 0) = false from decide_eq_false (by omega)]
  congr 1
  cases decide (a < 0) <;> rfl
theorem of_small_rep {a b : Int} (a0 : -30000 < a) (a1 : a < 30000) (b0 : 1 ≤ b) (b1 : b ≤ 30000) : ∃ x, ofF a b = (x, 0) ∧ Rep x a b.natAbs := by
  rw [ofF_pos (by omega)]
  have h16 : (2 : Nat) ^ 16 = 65536 := rfl
  obtain ⟨x, e, h⟩ := Sm.of (z := a) (d := b.natAbs) (k := 16) (by omega) (by omega) (by omega) (by omega)
  exact ⟨x, e, h.1⟩
theorem simp_law {a b c d : Int} (a0 : -300 < a) (a1 : a < 300) (b0 : 1 ≤ b) (b1 : b ≤ 60) (c0 : -300 < c) (c1 : c < 300) (d0 : 1 ≤ d) (d1 : d ≤ 60) (hle : a * d ≤ c * b) :
    ∃ LO HI s p q, ofF a b = (LO, 0) ∧ ofF c d = (HI, 0) ∧ simplestF LO HI = (fr s p q, 0) ∧ Ok s p q ∧ q ≤ 60 ∧ p < 300 ∧ ¬ sg s p * b < a * q ∧ ¬ c * q < sg s p * d ∧
      (∀ j : Nat, 1 ≤ j → j < q → ¬ a * j ≤ c * j / d * b) ∧ (∀ m : Int, m.natAbs < p → m * b < a * q ∨ c * q < m * d) := by
  obtain ⟨LO, e1, h1⟩ := of_small_rep (by omega) (by omega) b0 (by omega) (a := a) (b := b)
  obtain ⟨HI, e2, h2⟩ := of_small_rep (by omega) (by omega) d0 (by omega) (a := c) (b := d)
  have eb : (b.natAbs : Int) = b := by omega
  have ed : (d.natAbs : Int) = d := by omega
  obtain ⟨s, p, q, e3, o, q1, q2, q3⟩ := simp_rep h1 h2 (by rw [eb, ed]; exact hle)
  rw [eb] at q1 q3
  rw [ed] at q2 q3
  have hbnd := q3 a b.natAbs (by omega) (by rw [eb]; exact Int.le_refl _) (by rw [eb]; exact hle)
  refine ⟨LO, HI, s, p, q, e1, e2, e3, o, by omega, by omega, by omega, by omega, fun j j1 j2 hj => ?_, fun m hm => ?_⟩
  · have hF : c * j / d * d ≤ c * j := Int.ediv_mul_le _ (by omega)
    have := q3 (c * j / d) j (by omega) hj hF
    omega
  · rcases Int.lt_or_le (m * b) (a * q) with g | g
    · exact .inl g
    · right
      rcases Int.lt_or_le (c * q) (m * d) with k | k
      · exact k
      · have := q3 m q o.pos g k
        omega
theorem i64_and1023 (n : Int) : bits .and .i64 n 1023 = n % 1024 := by
  have h127 : (BitVec.ofInt 64 1023).toNat = 2 ^ 10 - 1 := by decide
  have key : (BitVec.ofInt 64 n &&& BitVec.ofInt 64 1023).toNat = (n % ((2 ^ 64 : Nat) : Int)).toNat % 2 ^ 10 := by
    rw [BitVec.toNat_and, BitVec.toNat_ofInt, h127, Nat.and_two_pow_sub_one_eq_mod]
  show IntKind.i64.wrap ((BitVec.ofInt 64 n &&& BitVec.ofInt 64 1023).toNat : Nat) = n % 1024
  rw [key, IntKind.wrap_i64]
  omega
theorem tmod_bd (n : Int) {d : Int} (hd : 0 < d) : -d < n.tmod d ∧ n.tmod d < d := ⟨Int.lt_tmod_of_pos n hd, Int.tmod_lt_of_pos n hd⟩
theorem floor_bd {n d X : Int} (hd : 1 ≤ d) (h0 : -X ≤ n) (h1 : n ≤ X) : -(X + 1) ≤ n / d ∧ n / d ≤ X + 1 := by
  obtain ⟨h, _, b⟩ := floor_key n d hd
  omega
end Go.Proofs.Ytaojdlcailpheaa
