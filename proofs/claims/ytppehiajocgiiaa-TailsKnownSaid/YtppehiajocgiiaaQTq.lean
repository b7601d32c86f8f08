/- Tails as fractions: what Exactly and Tail return, by value. -/
import Derived.Test.YtppehiajocgiiaaQRep
import Derived.Test.YtppehiajocgiiaaK21
set_option linter.unusedVariables false
namespace Go.Proofs.Ytppehiajocgiiaa

theorem of_small {j den : Nat} (hj : j ≤ den) (hd : 0 < den) (hb : den ≤ 1000) : ∃ a b, ofF (j : Int) (den : Int) = (fr false a b, 0) ∧ Ok false a b ∧ a ≤ b ∧ b ≤ 1000 ∧ Rep (fr false a b) (j : Int) den ∧ (∃ g, 0 < g ∧ j = g * a ∧ den = g * b) := by
  obtain ⟨a, b, hab, e1, e2⟩ := Nat.exists_coprime j den
  have hg : 0 < Nat.gcd j den := Nat.gcd_pos_of_pos_right _ hd
  generalize Nat.gcd j den = g at *
  have hb0 : 0 < b := by
    rcases Nat.eq_zero_or_pos b with h0 | h0
    · rw [h0, Nat.zero_mul] at e2; omega
    · exact h0
  have lb : b ≤ den := by rw [e2]; exact Nat.le_mul_of_pos_right _ hg
  have la : a ≤ b := by
    rw [e1, e2] at hj
    exact Nat.le_of_mul_le_mul_right hj hg
  have hk : Ok false a b := small_ok (by omega) (by omega) hb0 hab
  have e3 : ofF (j : Int) (den : Int) = (fr false a b, 0) := by
    rw [ofF_nat _ _ hd, e1, e2, Nat.mul_comm a, Nat.mul_comm b]
    exact made_red hg hk
  refine ⟨a, b, e3, hk, la, by omega, (rep_of_ok hk).cong hd ?_, g, hg, by rw [e1, Nat.mul_comm], by rw [e2, Nat.mul_comm]⟩
  show (a : Int) * den = j * b
  rw [e1, e2]; push_cast; ac_rfl

/-- The tail at k, as a fraction. -/
noncomputable def Tq (a b m k : Nat) : F := (made false (tl a (b - a) m k) (b ^ m)).1
/-- The part of exactly k, as a fraction. -/
noncomputable def Eq_ (a b m k : Nat) : F := (made false (ex a (b - a) m k) (b ^ m)).1
theorem made_nat (n d : Nat) : made false n d = madeZ (n : Int) d := made_sg false n d
theorem tailF_q {a b m k : Nat} (h : Ok false a b) (hab : a ≤ b) (hb : b ≤ 1000) (hm : m ≤ 64) (hk : k ≤ m + 1) : tailF (m : Int) (k : Int) (fr false a b) = (Tq a b m k, 0) ∧ Rep (Tq a b m k) (tl a (b - a) m k : Nat) (b ^ m) := by
  have hd : 0 < b ^ m := Nat.pow_pos h.pos
  obtain ⟨x, hx, hr⟩ := rep_of_made (z := ((tl a (b - a) m k : Nat) : Int)) hd (by rw [Int.natAbs_natCast]; exact Nat.le_trans (tl_limbs hab hb hm) (by omega)) (Nat.le_trans (pow_limbs hb hm) (by omega))
  rw [tailF_val h hab hb hm hk]
  unfold Tq
  rw [made_nat, hx]
  exact ⟨rfl, hr⟩
theorem exactlyF_q {a b m k : Nat} (h : Ok false a b) (hab : a ≤ b) (hb : b ≤ 1000) (hm : m ≤ 64) (hk : k ≤ m) : exactlyF (m : Int) (k : Int) (fr false a b) = (Eq_ a b m k, 0) ∧ Rep (Eq_ a b m k) (ex a (b - a) m k : Nat) (b ^ m) := by
  have hd : 0 < b ^ m := Nat.pow_pos h.pos
  obtain ⟨x, hx, hr⟩ := rep_of_made (z := ((ex a (b - a) m k : Nat) : Int)) hd (by rw [Int.natAbs_natCast]; exact Nat.le_trans (ex_limbs hab hb hm) (by omega)) (Nat.le_trans (pow_limbs hb hm) (by omega))
  rw [exactlyF_val h hab hb hm hk]
  unfold Eq_
  rw [made_nat, hx]
  exact ⟨rfl, hr⟩
theorem rep_zero : Rep (fr false 0 1) 0 1 := rep_of_ok (small_ok (by omega) (by omega) (by omega) (by decide))
theorem rep_one : Rep (fr false 1 1) 1 1 := rep_of_ok (small_ok (by omega) (by omega) (by omega) (by decide))
theorem w_01 : (ofF 0 1).1 = fr false 0 1 := congrArg Prod.fst (ofF_ok (a := 0) (b := 1) rfl rfl (small_ok (by omega) (by omega) (by omega) (by decide)))
theorem w_11 : (ofF 1 1).1 = fr false 1 1 := congrArg Prod.fst (ofF_ok (a := 1) (b := 1) rfl rfl (small_ok (by omega) (by omega) (by omega) (by decide)))
/-- Behind the last failure there is nothing. -/
theorem Tq_last {a b m : Nat} (h : Ok false a b) (hab : a ≤ b) (hb : b ≤ 1000) (hm : m ≤ 64) : Tq a b m (m + 1) = fr false 0 1 := by
  have := (tailF_q (k := m + 1) h hab hb hm (Nat.le_refl _)).2
  rw [tl_gt (by omega)] at this
  exact (this.inj rep_zero).2 (by simp)
/-- All together is 1. -/
theorem Tq_zero {a b m : Nat} (h : Ok false a b) (hab : a ≤ b) (hb : b ≤ 1000) (hm : m ≤ 64) : Tq a b m 0 = fr false 1 1 := by
  have := (tailF_q (k := 0) h hab hb hm (by omega)).2
  rw [tl_all, show a + (b - a) = b by omega] at this
  exact (this.inj rep_one).2 (by push_cast; omega)
/-- The next tail and the part between are the tail. -/
theorem Tq_add {a b m k : Nat} (h : Ok false a b) (hab : a ≤ b) (hb : b ≤ 1000) (hm : m ≤ 64) (hk : k ≤ m) : opF sumN (Tq a b m (k + 1)) (Eq_ a b m k) = (Tq a b m k, 0) := by
  have h1 := (tailF_q (k := k + 1) h hab hb hm (by omega)).2
  have h2 := (exactlyF_q (k := k) h hab hb hm hk).2
  have h3 := (tailF_q (k := k) h hab hb hm (by omega)).2
  rw [rep_add h1 h2, ← h3.made]
  refine madeZ_cong (Nat.mul_pos h1.1 h2.1) h3.1 ?_
  rw [tl_le hk]
  push_cast
  generalize ((b : Int) ^ m) = D
  grind
theorem cmpF_same {x : F} (h : ValidF x) : cmpF x x = (0, 0) := by
  have he := h.eq
  have hk := h.2.2
  have hr := rep_of_ok hk
  rw [← he] at hr
  rw [rep_cmp hr hr, if_neg (by omega), if_pos rfl]
open Go.RowKit in
theorem after_new2 {wi w2 : World} {cs cs' : Array Value} {t t' : TypeId} (hb : Below ((wi.alloc (.cells cs t)).alloc (.cells cs' t')).heap.size ((wi.alloc (.cells cs t)).alloc (.cells cs' t')) w2) :
    Below wi.heap.size wi w2 ∧ Box w2 wi.heap.size cs t ∧ Box w2 (wi.heap.size + 1) cs' t' := by
  obtain ⟨h1, c2⟩ := after_new hb
  obtain ⟨h0, c1⟩ := after_new h1
  exact ⟨h0, c1, by simpa using c2⟩
end Go.Proofs.Ytppehiajocgiiaa
