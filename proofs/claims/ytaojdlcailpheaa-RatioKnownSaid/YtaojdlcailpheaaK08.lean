/- Binomial tails as numbers: the chance of exactly k failures out of n, and the tails, as parts of all. No program in sight.
   Whole numbers and parts as fractions: what the operations return at them. No program in sight but the operations' own names.
   Walks of package tails: whole, sign, times, sum.
   Walks of package tails: sum, choose.
   Walks of package tails: powers.
   Memory words, more: variables that hold slices; stores into them leave fractions. -/
import Derived.Test.YtaojdlcailpheaaK01
import Derived.Test.YtaojdlcailpheaaK07
import Derived.Test.YtaojdlcailpheaaK06
import Derived.Deep.AppendLies
set_option linter.unusedVariables false
namespace Go.Proofs.Ytaojdlcailpheaa

/-- C(n, k). -/
def ch : Nat → Nat → Nat
  | _, 0 => 1
  | 0, _ + 1 => 0
  | n + 1, k + 1 => ch n k + ch n (k + 1)
theorem ch_zero (n : Nat) : ch n 0 = 1 := by cases n <;> rfl
theorem ch_succ (n k : Nat) : ch (n + 1) (k + 1) = ch n k + ch n (k + 1) := rfl
theorem ch_gt : ∀ (n k : Nat), n < k → ch n k = 0
  | 0, k + 1, _ => rfl
  | n + 1, k + 1, h => by rw [ch_succ, ch_gt n k (by omega), ch_gt n (k + 1) (by omega)]
theorem ch_self : ∀ n : Nat, ch n n = 1
  | 0 => rfl
  | n + 1 => by rw [ch_succ, ch_self n, ch_gt n (n + 1) (by omega)]
theorem ch_absorb : ∀ N j : Nat, (j + 1) * ch (N + 1) (j + 1) = (N + 1) * ch N j
  | 0, 0 => rfl
  | 0, j + 1 => by rw [ch_succ, ch_gt 0 (j + 1) (by omega), ch_gt 0 (j + 1 + 1) (by omega)]; simp
  | N + 1, 0 => by
    have h := ch_absorb N 0
    rw [ch_zero] at h ⊢
    rw [ch_succ, ch_zero]
    omega
  | N + 1, j + 1 => by
    have h1 := ch_absorb N (j + 1)
    have h2 := ch_absorb N j
    have e : (j + 1 + 1) * ch (N + 1 + 1) (j + 1 + 1) = (j + 1 + 1) * ch (N + 1) (j + 1) + (j + 1 + 1) * ch (N + 1) (j + 1 + 1) := by rw [ch_succ (N + 1) (j + 1), Nat.mul_add]
    have e3 : (j + 1 + 1) * ch (N + 1) (j + 1) = (j + 1) * ch (N + 1) (j + 1) + ch (N + 1) (j + 1) := by rw [Nat.add_mul, Nat.one_mul]
    have e4 : (N + 1 + 1) * ch (N + 1) (j + 1) = (N + 1) * ch (N + 1) (j + 1) + ch (N + 1) (j + 1) := by rw [Nat.add_mul, Nat.one_mul]
    have e5 : (N + 1) * ch (N + 1) (j + 1) = (N + 1) * ch N j + (N + 1) * ch N (j + 1) := by rw [ch_succ N j, Nat.mul_add]
    rw [e, h1, e3, h2, e4, e5]
    omega
theorem ch_symm : ∀ a b : Nat, ch (a + b) a = ch (a + b) b
  | 0, b => by rw [Nat.zero_add, ch_zero, ch_self]
  | a + 1, 0 => by rw [Nat.add_zero, ch_zero, ch_self]
  | a + 1, b + 1 => by
    have h1 := ch_symm a (b + 1)
    have h2 := ch_symm (a + 1) b
    have e : a + 1 + (b + 1) = (a + (b + 1)) + 1 := by omega
    have e2 : a + (b + 1) = a + 1 + b := by omega
    rw [e, ch_succ, ch_succ, h1, e2, h2]
    omega
theorem ch_flip {n k : Nat} (h : k ≤ n) : ch n (n - k) = ch n k := by
  have := ch_symm (n - k) k
  rwa [Nat.sub_add_cancel h] at this
theorem ch_le : ∀ n k : Nat, ch n k ≤ 2 ^ n
  | 0, 0 => by simp [ch]
  | 0, k + 1 => by simp [ch]
  | n + 1, 0 => by rw [ch_zero]; exact Nat.one_le_two_pow
  | n + 1, k + 1 => by
    have h1 := ch_le n k
    have h2 := ch_le n (k + 1)
    rw [ch_succ, Nat.pow_succ]
    omega
theorem ch_pos : ∀ {n k : Nat}, k ≤ n → 0 < ch n k
  | n, 0, _ => by rw [ch_zero]; omega
  | n + 1, k + 1, h => by have := ch_pos (n := n) (k := k) (by omega); rw [ch_succ]; omega

/-- The part of all of exactly k failures: a is the part of a failure, c the part of a success. -/
def ex (a c n k : Nat) : Nat := a ^ k * c ^ (n - k) * ch n k
theorem ex_gt {a c n k : Nat} (h : n < k) : ex a c n k = 0 := by unfold ex; rw [ch_gt n k h, Nat.mul_zero]
theorem ex_zero (a c n : Nat) : ex a c (n + 1) 0 = c * ex a c n 0 := by
  unfold ex; rw [ch_zero, ch_zero, Nat.pow_zero, Nat.sub_zero, Nat.sub_zero, Nat.pow_succ, Nat.one_mul, Nat.one_mul, Nat.mul_one, Nat.mul_one, Nat.mul_comm]
theorem ex_succ (a c n k : Nat) : ex a c (n + 1) (k + 1) = a * ex a c n k + c * ex a c n (k + 1) := by
  rcases Nat.lt_or_ge k n with h | h
  · have e1 : n + 1 - (k + 1) = n - (k + 1) + 1 := by omega
    have e2 : n - k = n - (k + 1) + 1 := by omega
    unfold ex
    rw [ch_succ, e1, e2, Nat.pow_succ, Nat.pow_succ]
    generalize a ^ k = p
    generalize c ^ (n - (k + 1)) = q
    generalize ch n k = r
    generalize ch n (k + 1) = s
    rw [Nat.mul_add]
    simp only [Nat.mul_left_comm, Nat.mul_comm]
  · rcases Nat.lt_or_ge n k with h2 | h2
    · rw [ex_gt (show n + 1 < k + 1 by omega), ex_gt h2, ex_gt (show n < k + 1 by omega)]; simp
    · obtain rfl : k = n := by omega
      rw [ex_gt (show k < k + 1 by omega)]
      unfold ex
      rw [ch_self, ch_self, Nat.sub_self, Nat.sub_self, Nat.pow_succ]
      simp [Nat.mul_comm]

/-- The tail at k, as a part of all. -/
def tl (a c n k : Nat) : Nat := if k ≤ n then ex a c n k + tl a c n (k + 1) else 0
termination_by n + 1 - k
theorem tl_le {a c n k : Nat} (h : k ≤ n) : tl a c n k = ex a c n k + tl a c n (k + 1) := by rw [tl, if_pos h]
theorem tl_gt {a c n k : Nat} (h : n < k) : tl a c n k = 0 := by rw [tl, if_neg (by omega)]
theorem tl_rec (a c n : Nat) : ∀ d k : Nat, n + 1 - k ≤ d → tl a c (n + 1) (k + 1) = a * tl a c n k + c * tl a c n (k + 1)
  | 0, k, h => by rw [tl_gt (show n + 1 < k + 1 by omega), tl_gt (show n < k by omega), tl_gt (show n < k + 1 by omega)]; simp
  | d + 1, k, h => by
    rcases Nat.lt_or_ge n k with h2 | h2
    · rw [tl_gt (show n + 1 < k + 1 by omega), tl_gt h2, tl_gt (show n < k + 1 by omega)]; simp
    · have ih := tl_rec a c n d (k + 1) (by omega)
      rw [tl_le (show k + 1 ≤ n + 1 by omega), ih, ex_succ, tl_le h2]
      rcases Nat.lt_or_ge n (k + 1) with h3 | h3
      · rw [tl_gt h3, tl_gt (show n < k + 1 + 1 by omega), ex_gt h3]; simp
      · have e1 : a * (ex a c n k + tl a c n (k + 1)) = a * ex a c n k + a * tl a c n (k + 1) := Nat.mul_add _ _ _
        have e2 : c * tl a c n (k + 1) = c * ex a c n (k + 1) + c * tl a c n (k + 1 + 1) := by rw [tl_le h3, Nat.mul_add]
        rw [e1, e2]; omega
theorem tl_succ (a c n k : Nat) : tl a c (n + 1) (k + 1) = a * tl a c n k + c * tl a c n (k + 1) := tl_rec a c n _ k (Nat.le_refl _)
theorem tl_all (a c : Nat) : ∀ n : Nat, tl a c n 0 = (a + c) ^ n
  | 0 => by rw [tl_le (Nat.le_refl 0), tl_gt (by omega)]; simp [ex, ch]
  | n + 1 => by
    have ih := tl_all a c n
    rw [tl_le (Nat.zero_le _), tl_succ, ex_zero, Nat.pow_succ, ← ih]
    have e : c * tl a c n 0 = c * ex a c n 0 + c * tl a c n 1 := by rw [tl_le (Nat.zero_le n), Nat.mul_add]
    have e2 : tl a c n 0 * (a + c) = a * tl a c n 0 + c * tl a c n 0 := by rw [Nat.mul_add, Nat.mul_comm, Nat.mul_comm (tl a c n 0) c]
    rw [e2, e]
    simp only [Nat.zero_add]
    omega
theorem tl_anti (a c n k : Nat) : tl a c n (k + 1) ≤ tl a c n k := by
  rcases Nat.lt_or_ge n k with h | h
  · rw [tl_gt h, tl_gt (by omega)]; omega
  · rw [tl_le h]; omega
theorem tl_anti' (a c n : Nat) {i j : Nat} (h : i ≤ j) : tl a c n j ≤ tl a c n i := by
  induction h with
  | refl => exact Nat.le_refl _
  | step _ ih => exact Nat.le_trans (tl_anti a c n _) ih
theorem tl_all_le (a c n k : Nat) : tl a c n k ≤ (a + c) ^ n := by rw [← tl_all]; exact tl_anti' a c n (Nat.zero_le _)
theorem ex_le_tl (a c n k : Nat) : ex a c n k ≤ tl a c n k := by
  rcases Nat.lt_or_ge n k with h | h
  · rw [ex_gt h]; omega
  · rw [tl_le h]; omega
theorem ex_all_le (a c n k : Nat) : ex a c n k ≤ (a + c) ^ n := Nat.le_trans (ex_le_tl a c n k) (tl_all_le a c n k)
theorem tl_more (a c n k : Nat) : (a + c) * tl a c n k ≤ tl a c (n + 1) k := by
  cases k with
  | zero => rw [tl_all, tl_all, Nat.pow_succ, Nat.mul_comm]; exact Nat.le_refl _
  | succ k =>
    rw [tl_succ, Nat.add_mul]
    exact Nat.add_le_add_right (Nat.mul_le_mul_left _ (tl_anti a c n k)) _
theorem tl_rate {a c a' c' : Nat} (hs : a + c = a' + c') (ha : a ≤ a') : ∀ n k : Nat, tl a c n k ≤ tl a' c' n k
  | n, 0 => by rw [tl_all, tl_all, hs]; exact Nat.le_refl _
  | 0, k + 1 => by rw [tl_gt (by omega)]; omega
  | n + 1, k + 1 => by
    rw [tl_succ, tl_succ]
    have h1 := Nat.mul_le_mul_left a (tl_rate hs ha n k)
    have h2 := Nat.mul_le_mul_left c (tl_rate hs ha n (k + 1))
    have h3 := Nat.mul_le_mul_left (a' - a) (tl_anti a' c' n k)
    have e1 : a' = a + (a' - a) := by omega
    have e2 : c = c' + (a' - a) := by omega
    have e3 : a' * tl a' c' n k = a * tl a' c' n k + (a' - a) * tl a' c' n k := by rw [← Nat.add_mul, ← e1]
    have e4 : c * tl a' c' n (k + 1) = c' * tl a' c' n (k + 1) + (a' - a) * tl a' c' n (k + 1) := by rw [← Nat.add_mul, ← e2]
    omega
theorem tl_scale (g a c : Nat) : ∀ n k : Nat, tl (g * a) (g * c) n k = g ^ n * tl a c n k
  | n, 0 => by rw [tl_all, tl_all, ← Nat.mul_add, Nat.mul_pow]
  | 0, k + 1 => by rw [tl_gt (by omega), tl_gt (by omega), Nat.mul_zero]
  | n + 1, k + 1 => by
    rw [tl_succ, tl_succ, tl_scale g a c n k, tl_scale g a c n (k + 1), Nat.pow_succ, Nat.mul_add]
    simp only [Nat.mul_assoc, Nat.mul_left_comm, Nat.mul_comm]
theorem tl_turn (a c : Nat) : ∀ n k : Nat, k ≤ n + 1 → tl a c n k + tl c a n (n + 1 - k) = (a + c) ^ n
  | n, 0, _ => by rw [tl_all, tl_gt (show n < n + 1 - 0 by omega)]; omega
  | 0, k + 1, h => by
    obtain rfl : k = 0 := by omega
    rw [tl_gt (by omega), show (0 + 1 - (0 + 1)) = 0 from rfl, tl_all]; simp
  | n + 1, k + 1, h => by
    rcases Nat.lt_or_ge k (n + 1) with h2 | h2
    · have h3 := tl_turn a c n k (by omega)
      have h4 := tl_turn a c n (k + 1) (by omega)
      have e : n + 1 + 1 - (k + 1) = (n - k) + 1 := by omega
      have e1 : n + 1 - k = n - k + 1 := by omega
      have e2 : n + 1 - (k + 1) = n - k := by omega
      rw [e1] at h3
      rw [e2] at h4
      rw [e, tl_succ, tl_succ, Nat.pow_succ]
      have p1 : (a + c) ^ n * a = a * tl a c n k + a * tl c a n (n - k + 1) := by rw [← h3, Nat.mul_comm, Nat.mul_add]
      have p2 : (a + c) ^ n * c = c * tl a c n (k + 1) + c * tl c a n (n - k) := by rw [← h4, Nat.mul_comm, Nat.mul_add]
      rw [Nat.mul_add, p1, p2]
      omega
    · obtain rfl : k = n + 1 := by omega
      rw [tl_gt (by omega), Nat.sub_self, tl_all, Nat.add_comm c a]; omega

/-- Exactly and the tails, scaled. -/
theorem ex_scale (g a c n k : Nat) (h : k ≤ n) : ex (g * a) (g * c) n k = g ^ n * ex a c n k := by
  unfold ex
  rw [Nat.mul_pow, Nat.mul_pow]
  have e : g ^ n = g ^ k * g ^ (n - k) := by rw [← Nat.pow_add]; congr 1; omega
  rw [e]
  simp only [Nat.mul_assoc, Nat.mul_left_comm]
theorem pow_limbs {b n : Nat} (hb : b ≤ 1000) (hn : n ≤ 64) : (limbs (b ^ n)).length ≤ 20 := by
  apply limbs_len_lt
  have h1 : b ^ n ≤ 1000 ^ n := Nat.pow_le_pow_left hb n
  have h2 : 1000 ^ n ≤ 1000 ^ 64 := Nat.pow_le_pow_right (by omega) hn
  have h3 : (1000 : Nat) ^ 64 < 4294967296 ^ 20 := by decide
  omega
end Go.Proofs.Ytaojdlcailpheaa

namespace Go.Proofs.Ytaojdlcailpheaa

/-- A whole number. -/
def Wh (n : Nat) : F := fr false n 1
theorem limbs_one_len : (limbs 1).length = 1 := by rw [limbs_one]; rfl
theorem ok_wh {n : Nat} (h : (limbs n).length ≤ 32) : Ok false n 1 := ⟨h, by rw [limbs_one_len]; omega, by omega, Nat.gcd_one_right n, fun _ => rfl⟩
theorem valid_wh {n : Nat} (h : (limbs n).length ≤ 32) : ValidF (Wh n) := validF_fr.2 (ok_wh h)
theorem made_one {n : Nat} (h : (limbs n).length ≤ 32) : made false n 1 = (Wh n, 0) := by
  unfold made Wh
  rw [Nat.gcd_one_right, Nat.div_one, Nat.div_one, limbs_one_len, if_neg (by omega)]
  rfl
theorem made_dvd {n d q : Nat} (hd : 0 < d) (he : n = q * d) (h : (limbs q).length ≤ 32) : made false n d = (Wh q, 0) := by
  subst he
  have hg : Nat.gcd (q * d) d = d := Nat.gcd_mul_left_left q d
  unfold made Wh
  rw [hg, Nat.mul_div_cancel q hd, Nat.div_self hd, limbs_one_len, if_neg (by omega)]
  rfl
theorem opF_fr {g : Bool → Nat → Nat → Bool → Nat → Nat → F × Int} {n1 n2 : Bool} {a b c d : Nat} (h : Ok n1 a b) (k : Ok n2 c d) : opF g (fr n1 a b) (fr n2 c d) = g n1 a b n2 c d := by
  rw [opF_yes ⟨validF_fr.2 h, validF_fr.2 k⟩]
  simp only [fr, val_limbs]
theorem mul_wh {a b : Nat} (ha : (limbs a).length ≤ 32) (hb : (limbs b).length ≤ 32) (h : (limbs (a * b)).length ≤ 32) : opF mulN (Wh a) (Wh b) = (Wh (a * b), 0) := by
  unfold Wh
  rw [opF_fr (ok_wh ha) (ok_wh hb)]
  exact made_one h
theorem add_wh {a b : Nat} (ha : (limbs a).length ≤ 32) (hb : (limbs b).length ≤ 32) (h : (limbs (a + b)).length ≤ 32) : opF sumN (Wh a) (Wh b) = (Wh (a + b), 0) := by
  unfold Wh
  rw [opF_fr (ok_wh ha) (ok_wh hb)]
  unfold sumN
  rw [if_pos rfl, Nat.mul_one, Nat.mul_one]
  exact made_one h
theorem div_wh {a b q : Nat} (ha : (limbs a).length ≤ 32) (hb : (limbs b).length ≤ 32) (hb0 : 0 < b) (he : a = q * b) (h : (limbs q).length ≤ 32) : opF divN (Wh a) (Wh b) = (Wh q, 0) := by
  unfold Wh
  rw [opF_fr (ok_wh ha) (ok_wh hb)]
  unfold divN
  rw [if_neg (by omega), Nat.mul_one, Nat.one_mul]
  exact made_dvd hb0 he h
/-- A quotient of whole numbers: the same fraction as the reference makes. -/
theorem div_made {a b : Nat} (ha : (limbs a).length ≤ 32) (hb : (limbs b).length ≤ 32) (hb0 : 0 < b) : opF divN (Wh a) (Wh b) = made false a b := by
  unfold Wh
  rw [opF_fr (ok_wh ha) (ok_wh hb)]
  unfold divN
  rw [if_neg (by omega), Nat.mul_one, Nat.one_mul]
  rfl
theorem sub_wh {a b : Nat} (ha : (limbs a).length ≤ 32) (hb : (limbs b).length ≤ 32) (hle : b ≤ a) : opF subN (Wh a) (Wh b) = (Wh (a - b), 0) := by
  have h : (limbs (a - b)).length ≤ 32 := Nat.le_trans (limbs_len_mono (Nat.sub_le a b)) ha
  unfold Wh
  rw [opF_fr (ok_wh ha) (ok_wh hb)]
  unfold subN sumN
  rcases Nat.eq_zero_or_pos b with h0 | h0
  · subst h0
    simp only [Nat.lt_irrefl, decide_false, Bool.and_false, if_true, Nat.mul_one, Nat.add_zero, Nat.sub_zero]
    exact made_one ha
  · have e : (!false && decide (0 < b)) = true := by simp [h0]
    rw [e, if_neg (by simp), Nat.mul_one, Nat.mul_one, if_neg (by omega)]
    exact made_one h
/-- The program's Of at whole numbers. -/
theorem of_wh {n : Nat} (h : (limbs n).length ≤ 32) : ofF (n : Int) 1 = (Wh n, 0) := by
  unfold ofF
  rw [if_neg (by omega)]
  have e : (!(decide ((n : Int) < 0) == decide ((1 : Int) < 0))) = false := by
    have : ¬ ((n : Int) < 0) := by omega
    simp [this]
  rw [e]
  exact made_one h
theorem limbs_mid {n : Nat} (h : n < 18446744073709551616) : (limbs n).length ≤ 2 := limbs_len_lt (k := 2) (by omega)
end Go.Proofs.Ytaojdlcailpheaa

namespace Go.Proofs.Ytaojdlcailpheaa
open Go.RowKit

theorem wrap_in {z : Int} (h0 : -9223372036854775808 ≤ z) (h1 : z ≤ 9223372036854775807) : IntKind.i64.wrap z = z := by rw [IntKind.wrap_i64]; omega
theorem end_box {w1 : World} {R : Nat} {x0 x1 x2 y0 y1 y2 : Value} {t : TypeId} (hR : Box w1 R #[x0, x1, x2] t) : Box (((w1.setCell ⟨R, 0, none⟩ y0).setCell ⟨R, 1, none⟩ y1).setCell ⟨R, 2, none⟩ y2) R #[y0, y1, y2] t := by
  have := ((hR.set 0 y0).set 1 y1).set 2 y2
  simpa using this
theorem far_box {w1 : World} {R S : Nat} {cs : Array Value} {y0 y1 y2 : Value} {t : TypeId} (hR : Box w1 S cs t) (h : S ≠ R) : Box (((w1.setCell ⟨R, 0, none⟩ y0).setCell ⟨R, 1, none⟩ y1).setCell ⟨R, 2, none⟩ y2) S cs t :=
  ((hR.far (p := ⟨R, 0, none⟩) h _).far (p := ⟨R, 1, none⟩) h _).far (p := ⟨R, 2, none⟩) h _
/-- The cells of a struct just written, behind a later block. -/
theorem end_cells {w1 : World} {R : Nat} {x0 x1 x2 y0 y1 y2 : Value} {t : TypeId} (hR : Box w1 R #[x0, x1, x2] t) (o : Obj) :
    ((((w1.setCell ⟨R, 0, none⟩ y0).setCell ⟨R, 1, none⟩ y1).setCell ⟨R, 2, none⟩ y2).alloc o).cell? ⟨R, 0, none⟩ = some y0 ∧
    ((((w1.setCell ⟨R, 0, none⟩ y0).setCell ⟨R, 1, none⟩ y1).setCell ⟨R, 2, none⟩ y2).alloc o).cell? ⟨R, 1, none⟩ = some y1 ∧
    ((((w1.setCell ⟨R, 0, none⟩ y0).setCell ⟨R, 1, none⟩ y1).setCell ⟨R, 2, none⟩ y2).alloc o).cell? ⟨R, 2, none⟩ = some y2 := by
  have h : Box (((w1.setCell ⟨R, 0, none⟩ y0).setCell ⟨R, 1, none⟩ y1).setCell ⟨R, 2, none⟩ y2) R #[y0, y1, y2] t := by
    have := ((hR.set 0 y0).set 1 y1).set 2 y2
    simpa using this
  exact (h.alloc o).cells3
/-- The end of a function that returns a fraction in a result struct. -/
theorem retF1_end {w w1 : World} {R : Nat} {x : F} {n0 : Bool} {x1 x2 va vb : Value} {t : TypeId} (hb : Below w.heap.size w w1) (hR : Box w1 R #[.bool n0, x1, x2] t) (hx1 : ∀ x, x1 ≠ .int .u32 x) (hx2 : ∀ x, x2 ≠ .int .u32 x) (hle : w.heap.size ≤ R) (h1 : Sl w1 va x.num) (h2 : Sl w1 vb x.den) :
    RetF1 w x (.returned (.agg #[.bool x.neg, va, vb])) (((w1.setCell ⟨R, 0, none⟩ (.bool x.neg)).setCell ⟨R, 1, none⟩ va).setCell ⟨R, 2, none⟩ vb) :=
  ⟨_, rfl, IsF.result hR hx1 hx2 h1 h2, ((hb.setCell hle _).setCell hle _).setCell hle _⟩
theorem RetF1.alloc {w w1 : World} {x : F} {e : Ending} (h : RetF1 w x e w1) (o : Obj) : RetF1 w x e (w1.alloc o) := by
  obtain ⟨v, h1, h2, h3⟩ := h
  exact ⟨v, h1, h2.alloc o, h3.alloc h3.size o⟩

/-- The product of numbers. -/
def prod : List Nat → Nat
  | [] => 1
  | a :: l => a * prod l
theorem prod_snoc (l : List Nat) (a : Nat) : prod (l ++ [a]) = prod l * a := by
  induction l with
  | nil => simp [prod]
  | cons x l ih => simp only [List.cons_append, prod, ih, Nat.mul_assoc]
theorem prod_take (l : List Nat) (i : Nat) (h : i < l.length) : prod (l.take (i + 1)) = prod (l.take i) * l[i] := by
  rw [List.take_add_one, List.getElem?_eq_getElem h]
  exact prod_snoc _ _

end Go.Proofs.Ytaojdlcailpheaa

namespace Go.Proofs.Ytaojdlcailpheaa
open Go.RowKit

/-- The sum of numbers. -/
def sums : List Nat → Nat
  | [] => 0
  | a :: l => a + sums l
theorem sums_snoc (l : List Nat) (a : Nat) : sums (l ++ [a]) = sums l + a := by
  induction l with
  | nil => simp [sums]
  | cons x l ih => simp only [List.cons_append, sums, ih, Nat.add_assoc]
theorem sums_take (l : List Nat) (i : Nat) (h : i < l.length) : sums (l.take (i + 1)) = sums (l.take i) + l[i] := by
  rw [List.take_add_one, List.getElem?_eq_getElem h]
  exact sums_snoc _ _

/-- C(n, k), step by step. -/
theorem ch_step {n k i : Nat} (hk : k ≤ n) (h0 : 0 < i) (hi : i ≤ k) : ch (n - k + (i - 1)) (i - 1) * (n - k + i) = ch (n - k + i) i * i := by
  obtain ⟨j, rfl⟩ : ∃ j, i = j + 1 := ⟨i - 1, by omega⟩
  have h := ch_absorb (n - k + j) j
  rw [Nat.add_sub_cancel, ← Nat.add_assoc, Nat.mul_comm, ← h, Nat.mul_comm]
theorem ch_limbs {n k : Nat} (hn : n ≤ 64) : (limbs (ch n k)).length ≤ 3 := by
  apply limbs_len_lt
  have h1 := ch_le n k
  have h2 : 2 ^ n ≤ 2 ^ 64 := Nat.pow_le_pow_right (by omega) hn
  have h3 : (2 : Nat) ^ 64 < 4294967296 ^ 3 := by decide
  omega

end Go.Proofs.Ytaojdlcailpheaa

namespace Go.Proofs.Ytaojdlcailpheaa
open Go.RowKit

theorem infoF : (Try.prog.info? 25).map (fun i => (i.zero, i.size, i.bytes)) = some (some (.agg #[.bool false, .slice none 0 0, .slice none 0 0]), 3, 56) := by kernel_rfl
theorem own_shape {w : World} {base n size : Nat} {t : TypeId} {v : Value} {xs : List Value} (h : w.ownsRow base t size v (n + 1) xs) : ∃ g cap, v = .slice (some ⟨g, 0, none⟩) (n + 1) cap := by
  rcases h.2 with ⟨_, h0⟩ | ⟨g, cap, _, rfl, _⟩
  · omega
  · exact ⟨g, cap, rfl⟩
theorem SlF.has {w : World} {g n cap : Nat} {xs : List F} (h : SlF w (.slice (some ⟨g, 0, none⟩) n cap) xs) {i : Nat} {x : F} (hx : xs[i]? = some x) : HasF w g (i * 3) x := by
  obtain ⟨b, cap', e, _, _, h4⟩ := h
  obtain ⟨rfl, _, _⟩ : g = b ∧ n = xs.length ∧ cap = cap' := by simpa using e
  exact h4 i x hx
theorem Box.grown {w w' : World} {b : Nat} {cs : Array Value} {t : TypeId} {row : Option Nat} (h : Box w b cs t) (hg : w.grownBy w' row) (hr : some b ≠ row) : Box w' b cs t := (hg.block b h.lt hr).trans h
theorem IsF.grown {w w' : World} {v : Value} {x : F} {row : Option Nat} (h : IsF w v x) (hg : w.grownBy w' row) (hr : ∀ g, row = some g → ¬ Tag32 w g) : IsF w' v x := by
  obtain ⟨va, vb, rfl, h1, h2⟩ := h
  exact ⟨va, vb, rfl, h1.grown hg hr, h2.grown hg hr⟩
/-- The powers 0 to n of a number. -/
def pows (a n : Nat) : List F := (List.range (n + 1)).map fun i => Wh (a ^ i)
theorem pows_len (a n : Nat) : (pows a n).length = n + 1 := by unfold pows; simp
theorem pows_get {a n i : Nat} (h : i ≤ n) : (pows a n)[i]? = some (Wh (a ^ i)) := by
  unfold pows
  rw [List.getElem?_map, List.getElem?_range (by omega)]; rfl
theorem pows_succ (a n : Nat) : pows a (n + 1) = pows a n ++ [Wh (a ^ (n + 1))] := by
  unfold pows
  rw [List.range_succ (n := n + 1), List.map_append]; rfl

end Go.Proofs.Ytaojdlcailpheaa

namespace Go.Proofs.Ytaojdlcailpheaa
open Go.RowKit

theorem below_dr {B : Nat} {w w' : World} (h : Below B w w') : Below B w w'.drew := ⟨h.os, h.tape, h.output, h.size, h.block⟩
theorem Sl.drew {w : World} {v : Value} {l : List Nat} (h : Sl w v l) : Sl w.drew v l := h.after (below_dr (Below.refl _ w))
theorem SlF.drew {w : World} {v : Value} {xs : List F} (h : SlF w v xs) : SlF w.drew v xs := h.after (below_dr (Below.refl _ w))
theorem held_alloc {W w : World} {o : Obj} (h : Below W.heap.size W w) : Below W.heap.size W (w.alloc o) := h.alloc h.size o
theorem held_set {W w : World} {p : Addr} {v : Value} (h : Below W.heap.size W w) (hp : W.heap.size ≤ p.block) : Below W.heap.size W (w.setCell p v) := h.setCell hp v
theorem Tag32.set {w : World} {b : Nat} (h : Tag32 w b) (g i : Nat) (v : Value) : Tag32 (w.setCell ⟨g, i, none⟩ v) b := by
  obtain ⟨cs, fz, h⟩ := h
  by_cases hb : b = g
  · subst hb
    exact ⟨cs.setIfInBounds i v, fz, by simp [World.setCell, Array.getElem?_modify, h]⟩
  · exact ⟨cs, fz, (Below.heap_setCell w ⟨g, i, none⟩ v b hb).trans h⟩
/-- A store into a cell that holds no limb leaves what a slice of limbs reads. -/
theorem Sl.setN {w : World} {v : Value} {l : List Nat} {b i : Nat} {u0 : Value} (h : Sl w v l) (hc : w.cell? ⟨b, i, none⟩ = some u0) (hn : ∀ x, u0 ≠ .int .u32 x) (u : Value) : Sl (w.setCell ⟨b, i, none⟩ u) v l := by
  obtain ⟨h0, a, cap, h1, h2, h3, h5, h6⟩ := h
  refine ⟨h0, a, cap, h1, h2, h3, ⟨h5.1, fun hl b' off ha => (h5.2 hl b' off ha).set _ _ _⟩, fun hl => ?_⟩
  obtain ⟨b', off, ha, hlt, hcs⟩ := h6 hl
  refine ⟨b', off, ha, by simpa [World.setCell] using hlt, fun j hj => ?_⟩
  rw [← hcs j hj]
  refine World.cell?_setCell_other w ⟨b, i, none⟩ ⟨b', off + j, none⟩ u (fun e => ?_)
  have e1 := hcs j hj
  rw [← e, hc] at e1
  injection e1 with e1
  exact hn _ e1
theorem IsF.setN {w : World} {v : Value} {x : F} {b i : Nat} {u0 : Value} (h : IsF w v x) (hc : w.cell? ⟨b, i, none⟩ = some u0) (hn : ∀ x, u0 ≠ .int .u32 x) (u : Value) : IsF (w.setCell ⟨b, i, none⟩ u) v x := by
  obtain ⟨va, vb, e, h1, h2⟩ := h
  exact ⟨va, vb, e, h1.setN hc hn u, h2.setN hc hn u⟩
/-- A store into a variable of slices leaves a row of fractions. -/
theorem SlF.setS {w : World} {v : Value} {xs : List F} {b : Nat} {p : Option Addr} {n c : Nat} (h : SlF w v xs) (hc : w.cell? ⟨b, 0, none⟩ = some (.slice p n c)) (u : Value) : SlF (w.setCell ⟨b, 0, none⟩ u) v xs := by
  obtain ⟨g, cap, h1, h2, h3, h4⟩ := h
  refine ⟨g, cap, h1, h2, h3, fun i x hx => ?_⟩
  have hne : g ≠ b := by
    rintro rfl
    have hl : 0 < xs.length := by
      rcases Nat.lt_or_ge i xs.length with hi | hi
      · omega
      · rw [List.getElem?_eq_none hi] at hx; cases hx
    obtain ⟨va, vb, e0, _⟩ := h4 0 xs[0] (List.getElem?_eq_getElem hl)
    rw [Nat.zero_mul, hc] at e0
    injection e0 with e0
    cases e0
  obtain ⟨va, vb, e0, e1, e2, e3, e4⟩ := h4 i x hx
  have k : ∀ j, (w.setCell ⟨b, 0, none⟩ u).cell? ⟨g, j, none⟩ = w.cell? ⟨g, j, none⟩ := fun j => World.cell?_setCell_other w ⟨b, 0, none⟩ ⟨g, j, none⟩ u (fun e => hne (by injection e with e1; exact e1.symm))
  exact ⟨va, vb, (k _).trans e0, (k _).trans e1, (k _).trans e2, e3.setN hc (fun _ h => by cases h) u, e4.setN hc (fun _ h => by cases h) u⟩
theorem SlF.alloc {w : World} {v : Value} {xs : List F} (h : SlF w v xs) (o : Obj) : SlF (w.alloc o) v xs := h.after ((Below.refl _ w).alloc (Nat.le_refl _) o)
/-- A variable that holds a fraction. -/
def VarF (w : World) (b : Nat) (x : F) : Prop := ∃ va vb, Box w b #[.bool x.neg, va, vb] 25 ∧ Sl w va x.num ∧ Sl w vb x.den
theorem VarF.after {w w' : World} {b : Nat} {x : F} (h : VarF w b x) (hb : Below w.heap.size w w') : VarF w' b x := by
  obtain ⟨va, vb, h1, h2, h3⟩ := h
  exact ⟨va, vb, h1.after hb, h2.after hb, h3.after hb⟩
theorem VarF.lt {w : World} {b : Nat} {x : F} (h : VarF w b x) : b < w.heap.size := by obtain ⟨_, _, h1, _⟩ := h; exact h1.lt
theorem VarF.drew {w : World} {b : Nat} {x : F} (h : VarF w b x) : VarF w.drew b x := h.after (below_dr (Below.refl _ w))
/-- A variable whose denominator is a literal 1. -/
theorem VarF.lit {w : World} {N s : Nat} {a : Nat} {va : Value} {r : Bool} (hA : Sl w va (limbs a)) (hr : r = false) (hb : w.heap[N]? = some (.cells #[.bool r, va, .slice (some ⟨s, 0, none⟩) 1 1] 25 (0, 0))) (hs : w.heap[s]? = some (.cells #[.int .u32 1] 51 (0, 0))) : VarF w N (Wh a) := by
  subst hr
  refine ⟨va, _, hb, hA, ?_⟩
  show Sl _ _ (limbs 1)
  rw [limbs_one]
  exact Sl.of_row (l := [1]) hs (Lb.cons (by omega) Lb.nil) (by simp) (by omega)
end Go.Proofs.Ytaojdlcailpheaa
