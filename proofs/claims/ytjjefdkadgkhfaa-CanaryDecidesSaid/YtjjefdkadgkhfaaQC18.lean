/- Canary, plain: a wave in the reference's order: going value by going value, outcome by outcome. -/
import Derived.Test.YtjjefdkadgkhfaaK20
set_option linter.unusedVariables false
namespace Go.Proofs.Ytjjefdkadgkhfaa

/-- The values of g below k, and value k with the outcomes below j. -/
def cvQ (g e : Nat → Nat) (k j i : Nat) : Nat := cvB g e k i + if k ≤ i ∧ i - k < j then g k * e (i - k) else 0
theorem cvQ_start (g e : Nat → Nat) (k i : Nat) : cvQ g e k 0 i = cvB g e k i := by
  unfold cvQ
  rw [if_neg (by omega), Nat.add_zero]
theorem cvQ_step (g e : Nat → Nat) (k j i : Nat) : cvQ g e k (j + 1) i = if i = k + j then cvQ g e k j i + g k * e j else cvQ g e k j i := by
  unfold cvQ
  by_cases hi : i = k + j
  · subst hi
    rw [if_pos rfl, if_pos ⟨by omega, by omega⟩, if_neg (by omega), Nat.add_zero, Nat.add_sub_cancel_left]
  · rw [if_neg hi]
    by_cases hc : k ≤ i ∧ i - k < j
    · rw [if_pos hc, if_pos ⟨hc.1, by omega⟩]
    · rw [if_neg hc, if_neg (by omega)]
theorem cvQ_end {g e : Nat → Nat} {k w : Nat} (he : ∀ j, w < j → e j = 0) (i : Nat) : cvQ g e k (w + 1) i = cvB g e (k + 1) i := by
  unfold cvQ
  rw [cvB_succ]
  congr 1
  by_cases hk : k ≤ i
  · rw [if_pos hk]
    by_cases hw : i - k < w + 1
    · rw [if_pos ⟨hk, hw⟩]
    · rw [if_neg (by omega), he _ (by omega), Nat.mul_zero]
  · rw [if_neg hk, if_neg (by omega)]
theorem cvQ_le (g e : Nat → Nat) (k j i : Nat) : cvQ g e k j i ≤ cvB g e (k + 1) i := by
  unfold cvQ
  rw [cvB_succ]
  refine Nat.add_le_add_left ?_ _
  by_cases hc : k ≤ i ∧ i - k < j
  · rw [if_pos hc, if_pos hc.1]; exact Nat.le_refl _
  · rw [if_neg hc]; exact Nat.zero_le _
theorem cvB_mono {g e : Nat → Nat} {k n : Nat} (h : k ≤ n) (i : Nat) : cvB g e k i ≤ cvB g e n i := sm_mono h
section
variable {R : Ro} {a c r : Nat}
theorem ex_far (a c w : Nat) : ∀ j, w < j → ex a c w j = 0 := fun j hj => ex_gt hj
/-- All values, all outcomes. -/
theorem cvB_nN (h : ValidR R) (a c : Nat) (hr : r ≤ R.waves.length) (k : Nat) : cvB (gN R a c r) (ex a c (wv R r)) (cum R r + 1) k = nN R a c r k :=
  (cv_eq (ex_far a c (wv R r)) (fun i hi => gN_far h a c hr i hi) k).symm
theorem nN_bound (h : ValidR R) (a c : Nat) (hr : r < R.waves.length) (i : Nat) : nN R a c r i ≤ (a + c) ^ cum R (r + 1) := by
  rcases Nat.lt_or_ge i (cum R (r + 1) + 1) with h1 | h1
  · have h2 : nN R a c r i ≤ sm (cum R (r + 1) + 1) (fun k => nN R a c r k) := sm_one (f := fun k => nN R a c r k) h1
    have h3 := nN_sum h a c hr
    omega
  · rw [nN_far h a c hr (by omega)]
    exact Nat.zero_le _
theorem cvQ_bound (h : ValidR R) (a c : Nat) (hr : r < R.waves.length) {k : Nat} (hk : k ≤ cum R r) (j i : Nat) : cvQ (gN R a c r) (ex a c (wv R r)) k j i ≤ (a + c) ^ cum R (r + 1) :=
  Nat.le_trans (cvQ_le _ _ k j i) (Nat.le_trans (cvB_mono (show k + 1 ≤ cum R r + 1 by omega) i) (by rw [cvB_nN h a c (Nat.le_of_lt hr)]; exact nN_bound h a c hr i))
/-- What has stopped of the first k values behind a wave. -/
noncomputable def sS (R : Ro) (a c r k : Nat) : Nat := gS R a c r * (a + c) ^ wv R r + sm k (fun i => if i < mOf R (cum R (r + 1)) then 0 else nN R a c r i)
theorem sS_last (R : Ro) (a c r : Nat) : sS R a c r (cum R (r + 1) + 1) = gS R a c (r + 1) := rfl
theorem sS_go {k : Nat} (hk : k < mOf R (cum R (r + 1))) : sS R a c r (k + 1) = sS R a c r k := by
  unfold sS
  rw [sm, if_pos hk, Nat.add_zero]
theorem sS_stop {k : Nat} (hk : ¬ k < mOf R (cum R (r + 1))) : sS R a c r (k + 1) = sS R a c r k + nN R a c r k := by
  unfold sS
  rw [sm, if_neg hk, Nat.add_assoc]
theorem sS_bound (h : ValidR R) (a c : Nat) (hr : r < R.waves.length) {k : Nat} (hk : k ≤ cum R (r + 1) + 1) : sS R a c r k ≤ (a + c) ^ cum R (r + 1) := by
  have h1 : sm k (fun i => if i < mOf R (cum R (r + 1)) then 0 else nN R a c r i) ≤ sm (cum R (r + 1) + 1) (fun i => if i < mOf R (cum R (r + 1)) then 0 else nN R a c r i) := sm_mono hk
  have h2 : sm (cum R (r + 1) + 1) (fun i => if i < mOf R (cum R (r + 1)) then 0 else nN R a c r i) ≤ sm (cum R (r + 1) + 1) (fun k => nN R a c r k) := by
    refine sm_le fun i _ => ?_
    show (if i < mOf R (cum R (r + 1)) then 0 else nN R a c r i) ≤ nN R a c r i
    split
    · exact Nat.zero_le _
    · exact Nat.le_refl _
  have h3 := nN_sum h a c hr
  unfold sS
  omega
end
theorem fq_nil {d : Nat} (hd : 0 < d) : FQ 0 d = FQ 0 1 := by
  have := fq_scale (z := 0) (d := 1) (t := d) (by omega) hd
  rw [Nat.zero_mul, Nat.one_mul] at this
  exact this
end Go.Proofs.Ytjjefdkadgkhfaa
