/- Walks of the statements' own functions: floor. -/
import Derived.Test.YtaojdlcailpheaaK29
set_option linter.unusedVariables false
namespace Go.Proofs.Ytaojdlcailpheaa
open Go.RowKit

theorem mulb {x y X Y : Int} (h1 : -X ≤ x) (h2 : x ≤ X) (h3 : -Y ≤ y) (h4 : y ≤ Y) : -(X * Y) ≤ x * y ∧ x * y ≤ X * Y := by
  have e1 : 0 ≤ (X - x) * (Y + y) := Int.mul_nonneg (by omega) (by omega)
  have e2 : 0 ≤ (X + x) * (Y - y) := Int.mul_nonneg (by omega) (by omega)
  have e3 : 0 ≤ (X - x) * (Y - y) := Int.mul_nonneg (by omega) (by omega)
  have e4 : 0 ≤ (X + x) * (Y + y) := Int.mul_nonneg (by omega) (by omega)
  simp only [Int.mul_add, Int.add_mul, Int.mul_sub, Int.sub_mul] at e1 e2 e3 e4
  have c1 : X * y + x * Y = x * Y + X * y := by omega
  generalize X * Y = a at *
  generalize X * y = b at *
  generalize x * Y = c at *
  generalize x * y = d at *
  omega
theorem div_of {n d q r : Int} (hd : 0 < d) (h : n = d * q + r) (h0 : 0 ≤ r) (h1 : r < d) : n / d = q := by
  rw [h, Int.add_comm, Int.add_mul_ediv_left _ _ (by omega), Int.ediv_eq_zero_of_lt h0 h1]; omega
theorem floor_key (n d : Int) (hd : 1 ≤ d) : (n.tdiv d * d ≤ n ∧ n / d = n.tdiv d ∨ n < n.tdiv d * d ∧ n / d = n.tdiv d - 1) ∧ (n.tdiv d * d).natAbs ≤ n.natAbs ∧ (n.tdiv d).natAbs ≤ n.natAbs := by
  have h := Int.mul_tdiv_add_tmod n d
  have h1 := Int.tmod_lt_of_pos n (show 0 < d by omega)
  have h2 : -d < n.tmod d := Int.lt_tmod_of_pos n (by omega)
  have hq : (n.tdiv d * d).natAbs ≤ n.natAbs ∧ (n.tdiv d).natAbs ≤ n.natAbs := by
    have e : (n.tdiv d).natAbs = n.natAbs / d.natAbs := Int.natAbs_tdiv n d
    constructor
    · rw [Int.natAbs_mul, e]; exact Nat.div_mul_le_self _ _
    · rw [e]; exact Nat.div_le_self _ _
  refine ⟨?_, hq⟩
  rw [Int.mul_comm (n.tdiv d) d]
  rcases Int.lt_or_le (n.tmod d) 0 with g | g
  · right
    refine ⟨by omega, div_of (r := n.tmod d + d) (by omega) ?_ (by omega) (by omega)⟩
    rw [Int.mul_sub, Int.mul_one]; omega
  · left
    exact ⟨by omega, div_of (by omega) h.symm g h1⟩
set_option maxRecDepth 100000 in
set_option maxHeartbeats 2000000 in
theorem floor_c (w : World) (n d : Int) (h0 : -1000000000000 ≤ n) (h1 : n ≤ 1000000000000) (hd : 1 ≤ d) : Calls Try.prog 46 #[.int .i64 n, .int .i64 d] w fun e w' => e = .returned (.int .i64 (n / d)) ∧ Below w.heap.size w w' := by
  obtain ⟨hk, b1, b2⟩ := floor_key n d hd
  obtain ⟨q, hq⟩ : ∃ q, n.tdiv d = q := ⟨_, rfl⟩
  rw [hq] at hk b1 b2
  have b3 : -1000000000000 ≤ q * d := by omega
  have b4 : q * d ≤ 1000000000000 := by omega
  have b5 : -1000000000000 ≤ q := by omega
  have b6 : q ≤ 1000000000000 := by omega
  clear b1 b2
  have hdz : (d == 0) = false := beq_eq_false_iff_ne.2 (by omega)
  rcases hk with ⟨g, e⟩ | ⟨g, e⟩
  · have hg : decide (n < q * d) = false := decide_eq_false (by omega)
    have E := Lib.hid e
    clear e g
    go_enter Try.func46, Try.ntmps46
    go_wp2_with fail
    go_ret
    rw [E.out]
    exact ⟨rfl, Below.refl _ _⟩
  · have hg : decide (n < q * d) = true := decide_eq_true g
    have E := Lib.hid e
    clear e g
    go_enter Try.func46, Try.ntmps46
    go_wp2_with fail
    go_ret
    rw [E.out]
    exact ⟨rfl, Below.refl _ _⟩
end Go.Proofs.Ytaojdlcailpheaa
