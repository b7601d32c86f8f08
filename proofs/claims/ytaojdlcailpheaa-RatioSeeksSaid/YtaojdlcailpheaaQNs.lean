/- Plain: what Nearest returns is the nearest one, by value. -/
import Derived.Test.YtaojdlcailpheaaK22
import Derived.Test.YtaojdlcailpheaaK19
set_option linter.unusedVariables false
namespace Go.Proofs.Ytaojdlcailpheaa
open Go.RowKit

def eS (s : Bool) : Int := if s = true then -1 else 1
theorem eS_or (s : Bool) : eS s = 1 ∨ eS s = -1 := by cases s <;> simp [eS]
theorem eS_mul (s : Bool) (a : Nat) : eS s * a = sg s a := by cases s <;> simp [eS, sg]
theorem eS_and (s : Bool) (a : Nat) : eS s * a = sg (s && decide (0 < a)) a := by
  rcases Nat.eq_zero_or_pos a with h | h
  · subst h; cases s <;> simp [eS, sg]
  · cases s <;> simp [eS, sg, h]
theorem dif_dN (a b p q : Nat) : dN (a : Int) b (p : Int) q = dif (a * q) (p * b) := by
  have e : ((a : Int) * q - b * p) = ((a * q : Nat) : Int) - ((p * b : Nat) : Int) := by push_cast; rw [Int.mul_comm (b : Int)]
  unfold dN dif
  rw [e]
  split <;> omega
theorem near_is {s : Bool} {a b N : Nat} (h : Ok s a b) (h1 : 1 ≤ N) (h2 : N ≤ 1000) :
    ∃ u p q, nearF (fr s a b) (N : Int) = (fr u p q, 0) ∧ Ok u p q ∧ p ≤ a ∧ Near (sg s a) b N (sg u p) q := by
  rw [nearF_fr h, if_neg (by omega), Int.toNat_natCast]
  by_cases hb : b ≤ N
  · rw [if_pos hb]
    exact ⟨s, a, b, rfl, h, Nat.le_refl _, near_exact h.pos hb⟩
  · rw [if_neg hb]
    have hb : N < b := by omega
    obtain ⟨A, B, s', hni, hB, hst⟩ := near_stop hb h1 b a Ch.begun 1 h.pos (NI.begun h1 h.gcd)
    generalize nearL N Ch.begun (cf a b) = c at *
    obtain ⟨k1, k2, k3, k4⟩ := near_side hni hB h.pos hst
    obtain ⟨p1, p2, p3, p4⟩ := hni.pick hb hB hst
    obtain ⟨_, q1, _, q2, _⟩ := hni.bound hb hB
    have c1 := nearK_cop (N := N) hni.sgn hni.det
    have c2 := NI.det_cop hni.sgn hni.det
    have o1 : Ok (s && decide (0 < (nearK N c).num)) (nearK N c).num (nearK N c).den :=
      ⟨Nat.le_trans (limbs_len_mono p1) h.n32, Nat.le_trans (limbs_len_mono (by omega)) h.d32, p4, c1, fun e => by rw [e]; simp⟩
    have o2 : Ok (s && decide (0 < c.num)) c.num c.den :=
      ⟨Nat.le_trans (limbs_len_mono q1) h.n32, Nat.le_trans (limbs_len_mono q2) h.d32, k1, c2, fun e => by rw [e]; simp⟩
    have hpk := near_pick (x := eS s * a) (b := b) (N := N) (yn := eS s * (nearK N c).num) (zn := eS s * c.num) (yd := (nearK N c).den) (zd := c.den) ⟨k2, k3⟩ ⟨k1, hni.dn⟩ (fun p q hq hqN => by
      have hp : p = eS s * (eS s * p) := by
        rw [← Int.mul_assoc]
        rcases eS_or s with e | e <;> rw [e] <;> simp
      rw [hp]
      rcases k4 (eS s * p) q hq hqN with g | g
      · exact .inl (g.sg (eS_or s))
      · exact .inr (g.sg (eS_or s)))
    rw [dN_sg (eS_or s), dN_sg (eS_or s), dif_dN, dif_dN, eS_and s (nearK N c).num, eS_and s c.num, eS_mul] at hpk
    have hord : ordN (s && decide (0 < (nearK N c).num)) (nearK N c).num (nearK N c).den (s && decide (0 < c.num)) c.num c.den < 0 ↔ sg (s && decide (0 < (nearK N c).num)) (nearK N c).num * c.den < sg (s && decide (0 < c.num)) c.num * (nearK N c).den := by
      rw [ordN_sg _ _ _ _ _ _ o1.pos o2.pos o1.sign o2.sign]
      by_cases g : sg (s && decide (0 < (nearK N c).num)) (nearK N c).num * c.den < sg (s && decide (0 < c.num)) c.num * (nearK N c).den
      · rw [if_pos g]; simp [g]
      · rw [if_neg g]
        split <;> simp [g]
    unfold nearC
    by_cases hc : closeF a b (s && decide (0 < (nearK N c).num)) (s && decide (0 < c.num)) (nearK N c).num (nearK N c).den c.num c.den
    · rw [pickF_yes hc]
      unfold closeF at hc
      rw [hord] at hc
      exact ⟨_, _, _, rfl, o1, p1, hpk.1 hc⟩
    · rw [pickF_no hc]
      unfold closeF at hc
      rw [hord] at hc
      exact ⟨_, _, _, rfl, o2, q1, hpk.2 hc⟩
theorem dN_scale {x a : Int} {b β : Nat} (h : x * b = a * β) (n : Int) (m : Nat) : dN x β n m * b = dN a b n m * β := by
  have e : (x * m - β * n) * b = (a * m - b * n) * β := by grind
  have := congrArg Int.natAbs e
  rw [Int.natAbs_mul, Int.natAbs_mul, Int.natAbs_natCast, Int.natAbs_natCast] at this
  exact this
theorem Near.scale {x a : Int} {b β N : Nat} {n : Int} {m : Nat} (hb : 0 < b) (hβ : 0 < β) (h : x * b = a * β) (k : Near x β N n m) : Near a b N n m := by
  obtain ⟨k1, k2, k3⟩ := k
  refine ⟨k1, k2, fun p q hq hN => ?_⟩
  obtain ⟨g1, g2⟩ := k3 p q hq hN
  have e1 := dN_scale h n m
  have e2 := dN_scale h p q
  have s1 : dN a b n m * q * β = dN x β n m * q * b := by
    have : dN a b n m * q * β = dN a b n m * β * q := by grind
    rw [this, ← e1]; grind
  have s2 : dN a b p q * m * β = dN x β p q * m * b := by
    have : dN a b p q * m * β = dN a b p q * β * m := by grind
    rw [this, ← e2]; grind
  constructor
  · refine Nat.le_of_mul_le_mul_right (c := β) ?_ hβ
    rw [s1, s2]
    exact Nat.mul_le_mul_right _ g1
  · intro e
    refine g2 (Nat.eq_of_mul_eq_mul_right hb ?_)
    rw [← s1, ← s2, e]
theorem near_rep {x : F} {a : Int} {b N : Nat} (h : Rep x a b) (h1 : 1 ≤ N) (h2 : N ≤ 1000) :
    ∃ u p q, nearF x (N : Int) = (fr u p q, 0) ∧ Ok u p q ∧ p ≤ a.natAbs ∧ Near a b N (sg u p) q := by
  obtain ⟨hb, s, α, β, rfl, ok, he⟩ := h
  obtain ⟨u, p, q, e, o, hp, hn⟩ := near_is ok h1 h2
  refine ⟨u, p, q, e, o, Nat.le_trans hp ?_, hn.scale hb ok.pos he⟩
  have h3 := congrArg Int.natAbs he
  rw [Int.natAbs_mul, Int.natAbs_mul, Int.natAbs_natCast, Int.natAbs_natCast, sg_natAbs] at h3
  rcases Nat.eq_zero_or_pos a.natAbs with h0 | h0
  · rw [h0, Nat.zero_mul] at h3
    rcases Nat.mul_eq_zero.1 h3 with g | g
    · omega
    · omega
  · have hd : α ∣ a.natAbs * β := ⟨b, h3.symm⟩
    exact Nat.le_of_dvd h0 (Nat.Coprime.dvd_of_dvd_mul_right ok.gcd hd)
theorem near_fits {a z : Int} {b k N : Nat} (h : Near a b N z k) (m : Int) (j : Nat) (h1 : 1 ≤ j) (h2 : j ≤ N) :
    ¬ max ((m * b - a * j) * k) (-((m * b - a * j) * k)) < max ((z * b - a * k) * j) (-((z * b - a * k) * j)) ∧
    (max ((m * b - a * j) * k) (-((m * b - a * j) * k)) = max ((z * b - a * k) * j) (-((z * b - a * k) * j)) → ¬ m * k < z * j) := by
  have hmax : ∀ v : Int, max v (-v) = (v.natAbs : Int) := fun v => by omega
  have ed : ∀ (p : Int) (q r : Nat), ((p * b - a * q) * r).natAbs = dN a b p q * r := fun p q r => by
    unfold dN
    rw [Int.natAbs_mul, Int.natAbs_natCast]
    congr 1
    have : p * b - a * q = -(a * q - b * p) := by rw [Int.mul_comm p]; omega
    rw [this, Int.natAbs_neg]
  rw [hmax, hmax, ed, ed]
  obtain ⟨g1, g2⟩ := h.2.2 m j h1 h2
  refine ⟨by omega, fun e => ?_⟩
  have := g2 (by omega)
  omega
end Go.Proofs.Ytaojdlcailpheaa
