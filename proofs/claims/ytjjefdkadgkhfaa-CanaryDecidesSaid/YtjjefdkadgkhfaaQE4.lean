/- Canary, plain: the sum over all lists of results, list by list, and the weight of one, result by result. -/
import Derived.Test.YtjjefdkadgkhfaaQGp
set_option linter.unusedVariables false
namespace Go.Proofs.Ytjjefdkadgkhfaa

theorem fq_ok {a b : Nat} (h : Ok false a b) : FQ a b = fr false a b := (rep_of_ok h).fst
theorem fq_turn {a b : Nat} (h : Ok false a b) (hab : a ≤ b) (hb : b ≤ 1000) : opF subN (fr false 1 1) (fr false a b) = (FQ (b - a) b, 0) := by
  rw [rep_sub rep_one (rep_of_ok h), ← (fq_rep (z := b - a) (d := b) h.pos (Nat.le_trans (limbs_len_lt (k := 1) (by omega)) (by omega)) h.d32).1]
  refine madeZ_cong (by have := h.pos; omega) h.pos ?_
  have : sg false a = (a : Int) := rfl
  rw [this]
  have h2 : ((b - a : Nat) : Int) = (b : Int) - a := by omega
  rw [h2]
  push_cast
  grind
/-- The weight of a list, one result more. -/
theorem wt_take {a c : Nat} {l : List Bool} {i : Nat} (hi : i < l.length) : wt a c (l.take (i + 1)) = wt a c (l.take i) * (if atb l i = true then a else c) := by
  rw [take_succ_atb hi, wt_snoc]
theorem wt_mul {a c b i x : Nat} {l : List Bool} (hac : a + c = b) (hb : b ≤ 1000) (hb0 : 0 < b) (hi : i < l.length) (hl : l.length ≤ 16) (hx : x = if atb l i = true then a else c) :
    opF mulN (FQ (wt a c (l.take i)) (b ^ i)) (FQ x b) = (FQ (wt a c (l.take (i + 1))) (b ^ (i + 1)), 0) := by
  have h1 : wt a c (l.take i) ≤ b ^ i := by
    have := wt_le a c (l.take i)
    rw [List.length_take, Nat.min_eq_left (Nat.le_of_lt hi), hac] at this
    exact this
  have h2 : x ≤ b ^ 1 := by rw [Nat.pow_one, hx]; split <;> omega
  have h3 : wt a c (l.take i) * x ≤ b ^ (i + 1) := by rw [Nat.pow_succ]; exact Nat.mul_le_mul h1 (by rw [Nat.pow_one] at h2; exact h2)
  rw [wt_take hi, ← hx, Nat.pow_succ]
  have := fq_mul (z := wt a c (l.take i)) (z' := x) (d := b ^ i) (d' := b) (Nat.pow_pos hb0) hb0 (pow_short hb (by omega) h1) (pow_short (n := 1) hb (by omega) h2) (pow_short hb (by omega) (Nat.le_refl _)) (pow_short (n := 1) hb (by omega) (by rw [Nat.pow_one]; exact Nat.le_refl _)) (pow_short hb (by omega) h3) (by rw [← Nat.pow_succ]; exact pow_short hb (by omega) (Nat.le_refl _))
  exact this
/-- The weights of the lists below b with which the rollout stops. -/
noncomputable def addS (R : Ro) (a c n b : Nat) : Nat := sm b fun b' => (if alive R (bitsL n b') R.waves.length = true then 0 else 1) * wt a c (bitsL n b')
theorem addS_go {R : Ro} {a c n b : Nat} (h : alive R (bitsL n b) R.waves.length = true) : addS R a c n (b + 1) = addS R a c n b := by
  unfold addS
  rw [sm, if_pos h, Nat.zero_mul, Nat.add_zero]
theorem addS_stop {R : Ro} {a c n b : Nat} (h : ¬ alive R (bitsL n b) R.waves.length = true) : addS R a c n (b + 1) = addS R a c n b + wt a c (bitsL n b) := by
  unfold addS
  rw [sm, if_neg h, Nat.one_mul]
theorem addS_all {R : Ro} (hv : ValidR R) (a c : Nat) : addS R a c R.hosts.length (2 ^ R.hosts.length) = gS R a c R.waves.length := by
  rw [gS_Ex hv a c (Nat.le_refl _), cum_last hv]
  exact sm_bits a c R.hosts.length fun l => if alive R l R.waves.length = true then 0 else 1
theorem addS_le {R : Ro} (hv : ValidR R) (a c : Nat) {b : Nat} (hb : b ≤ 2 ^ R.hosts.length) : addS R a c R.hosts.length b ≤ (a + c) ^ R.hosts.length := by
  have h1 : addS R a c R.hosts.length b ≤ addS R a c R.hosts.length (2 ^ R.hosts.length) := sm_mono hb
  rw [addS_all hv] at h1
  have h2 := gN_gS hv a c (Nat.le_refl R.waves.length)
  rw [cum_last hv] at h2
  omega
theorem addS_add {R : Ro} (hv : ValidR R) {a c β b : Nat} (hac : a + c = β) (hβ : β ≤ 1000) (hβ0 : 0 < β) (hb : b < 2 ^ R.hosts.length) (h : ¬ alive R (bitsL R.hosts.length b) R.waves.length = true) :
    opF sumN (FQ (addS R a c R.hosts.length b) (β ^ R.hosts.length)) (FQ (wt a c (bitsL R.hosts.length b)) (β ^ R.hosts.length)) = (FQ (addS R a c R.hosts.length (b + 1)) (β ^ R.hosts.length), 0) := by
  have h1 := addS_le hv a c (b := b + 1) (by omega)
  rw [addS_stop h, hac] at h1
  rw [addS_stop h]
  exact fq_add (Nat.pow_pos hβ0) (pow_short hβ hv.2.1 h1) (pow_short hβ hv.2.1 (Nat.le_refl _))
theorem chance_of {R : Ro} (hv : ValidR R) {a b : Nat} (hok : Ok false a b) (hab : a ≤ b) (hb : b ≤ 1000) : chanceF R (fr false a b) = (FQ (gS R a (b - a) R.waves.length) (b ^ cum R R.waves.length), 0) := by
  have hr : rateE (fr false a b) = 0 := rateE_ok hok hab hb
  unfold chanceF
  rw [if_neg (by rw [hr]; rintro (h | h); exact h hv; omega), if_pos hr]
  show (FQ (gS R (val (limbs a)) (val (limbs b) - val (limbs a)) R.waves.length) (val (limbs b) ^ cum R R.waves.length), 0) = _
  rw [val_limbs, val_limbs]
/-- Chance is the sum. -/
theorem chance_adds {R : Ro} (hv : ValidR R) {a b : Nat} (hok : Ok false a b) (hab : a ≤ b) (hb : b ≤ 1000) : chanceF R (fr false a b) = (FQ (addS R a (b - a) R.hosts.length (2 ^ R.hosts.length)) (b ^ R.hosts.length), 0) := by
  rw [chance_of hv hok hab hb, addS_all hv, cum_last hv]
end Go.Proofs.Ytjjefdkadgkhfaa
