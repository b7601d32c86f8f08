/- Plain: the nearest fraction, by trying all denominators. -/
import Derived.Test.YtaojdlcailpheaaQNs
import Derived.Test.YtaojdlcailpheaaQVF
set_option linter.unusedVariables false
namespace Go.Proofs.Ytaojdlcailpheaa
open Go.RowKit

/-- The size of the difference of s a / b and t c / d, times b d. -/
def distN (s : Bool) (a b : Nat) (t : Bool) (c d : Nat) : Nat := if s = t then dif (a * d) (c * b) else a * d + c * b
theorem dist_dN (s : Bool) (a b : Nat) (t : Bool) (c d : Nat) : distN s a b t c d = dN (sg s a) b (sg t c) d := by
  have e1 : ((a * d : Nat) : Int) = (a : Int) * d := by push_cast; rfl
  have e2 : ((c * b : Nat) : Int) = (b : Int) * c := by push_cast; rw [Int.mul_comm]
  unfold distN dN sg dif
  cases s <;> cases t <;> simp only [if_true, Bool.false_eq_true, if_false, reduceCtorEq, Int.neg_mul, Int.mul_neg, ← e1, ← e2]
  · split <;> omega
  · omega
  · omega
  · split <;> omega
/-- y is nearer to x than z, or as near and less. -/
def LexLt (x : Int) (b : Nat) (n : Int) (m : Nat) (p : Int) (q : Nat) : Prop := dN x b n m * q < dN x b p q * m ∨ dN x b n m * q = dN x b p q * m ∧ n * q < p * m
theorem LexLt.le {x : Int} {b : Nat} {n : Int} {m : Nat} {p : Int} {q : Nat} (h : LexLt x b n m p q) : LexLe x b n m p q := by
  rcases h with h | ⟨h1, h2⟩
  · exact ⟨by omega, fun e => by omega⟩
  · exact ⟨by omega, fun _ => by omega⟩
theorem LexLt.ge {x : Int} {b : Nat} {n : Int} {m : Nat} {p : Int} {q : Nat} (h : ¬ LexLt x b n m p q) : LexLe x b p q n m := by
  unfold LexLt at h
  refine ⟨by omega, fun e => ?_⟩
  rcases Int.lt_or_le (n * q) (p * m) with g | g
  · exact absurd (.inr ⟨by omega, g⟩) h
  · exact g
theorem LexLe.refl (x : Int) (b : Nat) (n : Int) (m : Nat) : LexLe x b n m n m := ⟨Nat.le_refl _, fun _ => Int.le_refl _⟩
theorem LexLe.trans {x : Int} {b : Nat} {n m p : Int} {nd md q : Nat} (h1 : 0 < nd) (h2 : 0 < md) (h3 : 0 < q) (ha : LexLe x b n nd m md) (hb : LexLe x b m md p q) : LexLe x b n nd p q := lex_trans h1 h2 h3 ha hb.1 hb.2
/-- The same fraction, written otherwise. -/
theorem LexLe.other {x : Int} {b : Nat} {n p p' : Int} {m q q' : Nat} (hq : 0 < q) (hq' : 0 < q') (h : LexLe x b n m p q) (e : p * q' = p' * q) : LexLe x b n m p' q' := by
  obtain ⟨h1, h2⟩ := h
  have ed : dN x b p q * q' = dN x b p' q' * q := by
    have e1 : (x * q - b * p) * q' = (x * q' - b * p') * q := by
      have : (b : Int) * p * q' = b * p' * q := by rw [Int.mul_assoc, e, ← Int.mul_assoc]
      grind
    have := congrArg Int.natAbs e1
    rw [Int.natAbs_mul, Int.natAbs_mul, Int.natAbs_natCast, Int.natAbs_natCast] at this
    exact this
  have s1 : dN x b n m * q * q' = dN x b n m * q' * q := by grind
  have s2 : dN x b p q * m * q' = dN x b p' q' * m * q := by
    have : dN x b p q * m * q' = dN x b p q * q' * m := by grind
    rw [this, ed]; grind
  constructor
  · refine Nat.le_of_mul_le_mul_right (c := q) ?_ hq
    rw [← s1, ← s2]
    exact Nat.mul_le_mul_right _ h1
  · intro g
    have g1 : dN x b n m * q = dN x b p q * m := Nat.eq_of_mul_eq_mul_right hq' (by rw [s1, s2, g])
    have g2 := h2 g1
    have g3 : n * q * q' ≤ p * m * q' := Int.mul_le_mul_of_nonneg_right g2 (by omega)
    have e1 : n * q * q' = n * q' * q := by grind
    have e2 : p * m * q' = p' * m * q := by
      have : p * m * q' = p * q' * m := by grind
      rw [this, e]; grind
    rw [e1, e2] at g3
    exact Int.le_of_mul_le_mul_right g3 (by omega)
/-- What Made makes: the fraction in lowest terms, or an error where it is too long. -/
theorem made_cases (s : Bool) (Q d : Nat) (hd : 0 < d) : (∃ u p q, made s Q d = (fr u p q, 0) ∧ Ok u p q ∧ sg u p * d = sg s Q * q ∧ q ≤ d) ∨ ((made s Q d).2 = 3 ∧ (32 < (limbs Q).length ∨ 32 < (limbs d).length)) := by
  have hg : 0 < Nat.gcd Q d := Nat.gcd_pos_of_pos_right _ hd
  have c1 : Q / Nat.gcd Q d * Nat.gcd Q d = Q := Nat.div_mul_cancel (Nat.gcd_dvd_left Q d)
  have c2 : d / Nat.gcd Q d * Nat.gcd Q d = d := Nat.div_mul_cancel (Nat.gcd_dvd_right Q d)
  have hcop : Nat.gcd (Q / Nat.gcd Q d) (d / Nat.gcd Q d) = 1 := Nat.gcd_div_gcd_div_gcd_of_pos_right hd
  have l1 : Q / Nat.gcd Q d ≤ Q := Nat.div_le_self _ _
  have l2 : d / Nat.gcd Q d ≤ d := Nat.div_le_self _ _
  unfold made
  generalize Q / Nat.gcd Q d = p at *
  generalize d / Nat.gcd Q d = q at *
  generalize Nat.gcd Q d = g at *
  by_cases hl : 32 < (limbs p).length ∨ 32 < (limbs q).length
  · right
    rw [if_pos hl]
    refine ⟨rfl, ?_⟩
    rcases hl with h | h
    · exact .inl (Nat.lt_of_lt_of_le h (limbs_len_mono l1))
    · exact .inr (Nat.lt_of_lt_of_le h (limbs_len_mono l2))
  · left
    rw [if_neg hl]
    have hq : 0 < q := by
      rcases Nat.eq_zero_or_pos q with h | h
      · rw [h, Nat.zero_mul] at c2; omega
      · exact h
    refine ⟨_, p, q, rfl, ⟨by omega, by omega, hq, hcop, fun e => by rw [e]; simp⟩, ?_, l2⟩
    rw [← eS_and, ← eS_mul, ← c1, ← c2]
    push_cast
    grind
/-- How far the search has come: the best of what has been tried. -/
def Tried (d i d' i' : Nat) : Prop := 1 ≤ d' ∧ i' < 2 ∧ (d' < d ∨ d' = d ∧ i' < i)
structure NrI (s : Bool) (a b N d i : Nat) (u : Bool) (p q : Nat) : Prop where
  ok : Ok u p q
  den : q ≤ N
  best : ∀ d' i', Tried d i d' i' → (made s (a * d' / b + i') d').2 = 0 → LexLe (sg s a) b (sg u p) q (sg s (a * d' / b + i')) d'
section
variable {s : Bool} {a b N d i : Nat} {u : Bool} {p q : Nat}
theorem NrI.start (ok : Ok u p 1) (hN : 1 ≤ N) : NrI s a b N 1 0 u p 1 := ⟨ok, hN, fun d' i' h => by unfold Tried at h; omega⟩
theorem NrI.next (h : NrI s a b N d 2 u p q) : NrI s a b N (d + 1) 0 u p q := ⟨h.ok, h.den, fun d' i' ht => h.best d' i' (by unfold Tried at ht ⊢; omega)⟩
theorem NrI.skip (h : NrI s a b N d i u p q) (he : (made s (a * d / b + i) d).2 ≠ 0) : NrI s a b N d (i + 1) u p q := ⟨h.ok, h.den, fun d' i' ht hm => by
  by_cases e : d' = d ∧ i' = i
  · obtain ⟨rfl, rfl⟩ := e; exact absurd hm he
  · exact h.best d' i' (by unfold Tried at ht ⊢; omega) hm⟩
theorem NrI.keep {u' : Bool} {p' q' : Nat} (h : NrI s a b N d i u p q) (hd : 0 < d) (ok : Ok u' p' q') (hc : sg u' p' * d = sg s (a * d / b + i) * q') (hn : ¬ LexLt (sg s a) b (sg u' p') q' (sg u p) q) : NrI s a b N d (i + 1) u p q := ⟨h.ok, h.den, fun d' i' ht hm => by
  by_cases e : d' = d ∧ i' = i
  · obtain ⟨rfl, rfl⟩ := e; exact (LexLt.ge hn).other ok.pos hd hc
  · exact h.best d' i' (by unfold Tried at ht ⊢; omega) hm⟩
theorem NrI.take {u' : Bool} {p' q' : Nat} (h : NrI s a b N d i u p q) (hd : 0 < d) (hN : d ≤ N) (ok : Ok u' p' q') (hq : q' ≤ d) (hc : sg u' p' * d = sg s (a * d / b + i) * q') (hn : LexLt (sg s a) b (sg u' p') q' (sg u p) q) : NrI s a b N d (i + 1) u' p' q' := ⟨ok, Nat.le_trans hq hN, fun d' i' ht hm => by
  by_cases e : d' = d ∧ i' = i
  · obtain ⟨rfl, rfl⟩ := e; exact (LexLe.refl _ _ _ _).other ok.pos hd hc
  · exact hn.le.trans ok.pos h.ok.pos ht.1 (h.best d' i' (by unfold Tried at ht ⊢; omega) hm)⟩
theorem NrI.done (hx : Ok s a b) (h1 : 1 ≤ N) (h2 : N ≤ 1000) (h : NrI s a b N (N + 1) 0 u p q) : nearF (fr s a b) (N : Int) = (fr u p q, 0) := by
  obtain ⟨u2, p2, q2, e, ok2, _, hn⟩ := near_is hx h1 h2
  have hb := hx.pos
  have hN : Near (sg s a) b N (sg u p) q := by
    by_cases hbN : b ≤ N
    · have hm : (made s (a * b / b + 0) b).2 = 0 := by rw [Nat.mul_div_cancel _ hb, Nat.add_zero, made_okS hx]
      have hl := h.best b 0 ⟨hb, by omega, .inl (by omega)⟩ hm
      rw [Nat.mul_div_cancel _ hb, Nat.add_zero] at hl
      have h0 : dN (sg s a) b (sg s a) b = 0 := by unfold dN; rw [Int.mul_comm, Int.sub_self]; rfl
      have h3 := hl.1
      rw [h0, Nat.zero_mul] at h3
      have h4 : dN (sg s a) b (sg u p) q = 0 := by
        rcases Nat.mul_eq_zero.1 (Nat.le_zero.1 h3) with g | g
        · exact g
        · omega
      have h5 : sg u p * b = sg s a * q := by
        unfold dN at h4
        have := Int.natAbs_eq_zero.1 h4
        rw [Int.mul_comm (b : Int)] at this
        omega
      have h6 := (Rep.inj (rep_of_ok h.ok) (rep_of_ok hx)).2 h5
      have e1 := congrArg (fun x => x.neg) h6
      have e2 := congrArg (fun x => val x.num) h6
      have e3 := congrArg (fun x => val x.den) h6
      simp only [fr, val_limbs] at e1 e2 e3
      subst e1 e2 e3
      exact near_exact hb hbN
    · have key : ∀ d' i', 0 < d' → d' ≤ N → i' < 2 → LexLe (sg s a) b (sg u p) q (sg s (a * d' / b + i')) d' := fun d' i' g1 g2 g3 => by
        refine h.best d' i' ⟨g1, g3, .inl (by omega)⟩ ?_
        have hQ : a * d' / b + i' ≤ max a 1 := by
          rcases Nat.eq_zero_or_pos a with h0 | h0
          · subst h0; rw [Nat.zero_mul, Nat.zero_div]; omega
          · have : a * d' / b < a := (Nat.div_lt_iff_lt_mul hb).2 (Nat.mul_lt_mul_of_pos_left (by omega) h0)
            omega
        have hl1 : (limbs (max a 1)).length ≤ 32 := by
          rcases Nat.le_total a 1 with g | g
          · rw [Nat.max_eq_right g, limbs_one]; simp
          · rw [Nat.max_eq_left g]; exact hx.n32
        rcases made_cases s (a * d' / b + i') d' g1 with ⟨_, _, _, em, _⟩ | ⟨_, hlen⟩
        · rw [em]
        · exfalso
          have k1 := limbs_len_mono hQ
          have k2 := limbs_len_mono (show d' ≤ b by omega)
          have k3 := hx.d32
          omega
      rw [← eS_mul]
      refine near_of_cands (eS_or s) hb h.ok.pos h.den (fun d' g1 g2 => ?_)
      rw [eS_mul, eS_mul, eS_mul]
      exact ⟨key d' 0 g1 g2 (by omega), key d' 1 g1 g2 (by omega)⟩
  have hu := hN.unique hn
  rw [e, (Rep.inj (rep_of_ok h.ok) (rep_of_ok ok2)).2 hu]
end
end Go.Proofs.Ytaojdlcailpheaa
