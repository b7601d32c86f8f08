/- Fractions by value: what the operations return at a fraction that is worth z / d, and when two are the same. No program in sight but the operations' own names.
   Walks of package tails: Upper's test at a rate.
   Walks: sort.Search over Upper's test.
   Walks of package tails: Upper.
   Walks of package tails: Upper, where it is refused; Upper.
   Walks of the reference's tails: Upper.
   Walks of the statements' own functions: of, one, is.
   Walks of the statements' own functions: one, rate, few, own.
   Plain facts for the statements on tails: values at small numbers.
   Tails as fractions: what Exactly and Tail return, by value. -/
import Derived.Test.YtaojdlcailpheaaK08
import Derived.Test.YtaojdlcailpheaaK15
import Derived.Test.YtaojdlcailpheaaK18
import Derived.Test.YtaojdlcailpheaaK17
import Derived.Test.YtaojdlcailpheaaK11
import Derived.Test.YtaojdlcailpheaaK02
set_option linter.unusedVariables false
namespace Go.Proofs.Ytaojdlcailpheaa

def sg (s : Bool) (a : Nat) : Int := if s = true then -(a : Int) else a
/-- The fraction z / d in lowest terms, and its error. -/
noncomputable def madeZ (z : Int) (d : Nat) : F × Int := made (decide (z < 0)) z.natAbs d

theorem made_zero (s : Bool) (d : Nat) : made s 0 d = made false 0 d := by
  unfold made
  simp
theorem made_sg (s : Bool) (n d : Nat) : made s n d = madeZ (sg s n) d := by
  unfold madeZ sg
  cases s with
  | false =>
    have h : decide (((n : Nat) : Int) < 0) = false := by simp
    simp only [Bool.false_eq_true, if_false, h, Int.natAbs_natCast]
  | true =>
    rcases Nat.eq_zero_or_pos n with h0 | h0
    · subst h0
      rw [made_zero]
      rfl
    · have h : decide (-((n : Nat) : Int) < 0) = true := by simp; omega
      simp only [if_true, h, Int.natAbs_neg, Int.natAbs_natCast]
theorem nat_cong {n d n' d' : Nat} (hd : 0 < d) (hd' : 0 < d') (h : n * d' = n' * d) : n / Nat.gcd n d = n' / Nat.gcd n' d' ∧ d / Nat.gcd n d = d' / Nat.gcd n' d' := by
  obtain ⟨a, b, hab, e1, e2⟩ := Nat.exists_coprime n d
  obtain ⟨a', b', hab', e1', e2'⟩ := Nat.exists_coprime n' d'
  have hg : 0 < Nat.gcd n d := Nat.gcd_pos_of_pos_right _ hd
  have hg' : 0 < Nat.gcd n' d' := Nat.gcd_pos_of_pos_right _ hd'
  have q1 : n / Nat.gcd n d = a := Nat.div_eq_of_eq_mul_left hg e1
  have q2 : d / Nat.gcd n d = b := Nat.div_eq_of_eq_mul_left hg e2
  have q1' : n' / Nat.gcd n' d' = a' := Nat.div_eq_of_eq_mul_left hg' e1'
  have q2' : d' / Nat.gcd n' d' = b' := Nat.div_eq_of_eq_mul_left hg' e2'
  rw [q1, q2, q1', q2']
  generalize Nat.gcd n d = g at *
  generalize Nat.gcd n' d' = g' at *
  have hb : 0 < b := by
    rcases Nat.eq_zero_or_pos b with h0 | h0
    · rw [h0, Nat.zero_mul] at e2; omega
    · exact h0
  have key : a * b' = a' * b := by
    rw [e1, e2, e1', e2'] at h
    have h2 : (a * b') * (g * g') = (a' * b) * (g * g') := by
      calc (a * b') * (g * g') = a * g * (b' * g') := by ac_rfl
        _ = a' * g' * (b * g) := h
        _ = (a' * b) * (g * g') := by ac_rfl
    exact Nat.eq_of_mul_eq_mul_right (Nat.mul_pos hg hg') h2
  have d1 : b ∣ b' := Nat.Coprime.dvd_of_dvd_mul_left (Nat.Coprime.symm hab) ⟨a', by rw [key, Nat.mul_comm]⟩
  have d2 : b' ∣ b := Nat.Coprime.dvd_of_dvd_mul_left (Nat.Coprime.symm hab') ⟨a, by rw [← key, Nat.mul_comm]⟩
  have eb : b = b' := Nat.dvd_antisymm d1 d2
  subst eb
  exact ⟨Nat.eq_of_mul_eq_mul_right hb key, rfl⟩
theorem madeZ_cong {z z' : Int} {d d' : Nat} (hd : 0 < d) (hd' : 0 < d') (h : z * d' = z' * d) : madeZ z d = madeZ z' d' := by
  have hs : (z < 0 ↔ z' < 0) := by
    constructor
    · intro hz
      rcases Int.lt_or_le z' 0 with h1 | h1
      · exact h1
      · have h2 : z * d' < 0 := Int.mul_neg_of_neg_of_pos hz (by omega)
        have h3 : 0 ≤ z' * d := Int.mul_nonneg h1 (by omega)
        omega
    · intro hz
      rcases Int.lt_or_le z 0 with h1 | h1
      · exact h1
      · have h2 : z' * d < 0 := Int.mul_neg_of_neg_of_pos hz (by omega)
        have h3 : 0 ≤ z * d' := Int.mul_nonneg h1 (by omega)
        omega
  have hn : z.natAbs * d' = z'.natAbs * d := by
    have := congrArg Int.natAbs h
    rwa [Int.natAbs_mul, Int.natAbs_mul, Int.natAbs_natCast, Int.natAbs_natCast] at this
  obtain ⟨q1, q2⟩ := nat_cong hd hd' hn
  have hd2 : decide (z < 0) = decide (z' < 0) := by simp only [hs]
  unfold madeZ made
  rw [q1, q2, hd2]
theorem made_okS {s : Bool} {a b : Nat} (h : Ok s a b) : made s a b = (fr s a b, 0) := by
  unfold made
  rw [h.gcd, Nat.div_one, Nat.div_one, if_neg (by have := h.n32; have := h.d32; omega)]
  have : (s && decide (0 < a)) = s := by
    rcases Nat.eq_zero_or_pos a with h0 | h0
    · rw [h.sign h0]; rfl
    · simp [h0]
  rw [this]
theorem sg_natAbs (s : Bool) (a : Nat) : (sg s a).natAbs = a := by unfold sg; cases s <;> simp

/-- The fraction x is valid and worth z / d. -/
def Rep (x : F) (z : Int) (d : Nat) : Prop := 0 < d ∧ ∃ s a b, x = fr s a b ∧ Ok s a b ∧ sg s a * d = z * b
theorem Rep.valid {x : F} {z : Int} {d : Nat} (h : Rep x z d) : ValidF x := by
  obtain ⟨_, s, a, b, rfl, hk, _⟩ := h
  exact validF_fr.2 hk
theorem Rep.made {x : F} {z : Int} {d : Nat} (h : Rep x z d) : madeZ z d = (x, 0) := by
  obtain ⟨hd, s, a, b, rfl, hk, he⟩ := h
  rw [madeZ_cong hd hk.pos he.symm, ← made_sg, made_okS hk]
theorem Rep.fst {x : F} {z : Int} {d : Nat} (h : Rep x z d) : (madeZ z d).1 = x := by rw [h.made]
theorem rep_of_ok {s : Bool} {a b : Nat} (h : Ok s a b) : Rep (fr s a b) (sg s a) b := ⟨h.pos, s, a, b, rfl, h, rfl⟩
theorem Rep.cong {x : F} {z z' : Int} {d d' : Nat} (h : Rep x z d) (hd' : 0 < d') (he : z * d' = z' * d) : Rep x z' d' := by
  obtain ⟨hd, s, a, b, rfl, hk, h1⟩ := h
  refine ⟨hd', s, a, b, rfl, hk, ?_⟩
  have h2 : (sg s a * d') * d = (z' * b) * d := by grind
  exact Int.eq_of_mul_eq_mul_right (by omega) h2
theorem rep_of_made {z : Int} {d : Nat} (hd : 0 < d) (hz : (limbs z.natAbs).length ≤ 32) (hdl : (limbs d).length ≤ 32) : ∃ x, madeZ z d = (x, 0) ∧ Rep x z d := by
  obtain ⟨a, b, hab, e1, e2⟩ := Nat.exists_coprime z.natAbs d
  have hg : 0 < Nat.gcd z.natAbs d := Nat.gcd_pos_of_pos_right _ hd
  generalize Nat.gcd z.natAbs d = g at *
  have hb : 0 < b := by
    rcases Nat.eq_zero_or_pos b with h0 | h0
    · rw [h0, Nat.zero_mul] at e2; omega
    · exact h0
  have la : a ≤ z.natAbs := by rw [e1]; exact Nat.le_mul_of_pos_right _ hg
  have lb : b ≤ d := by rw [e2]; exact Nat.le_mul_of_pos_right _ hg
  have hk : Ok (decide (z < 0)) a b := by
    refine ⟨Nat.le_trans (limbs_len_mono la) hz, Nat.le_trans (limbs_len_mono lb) hdl, hb, hab, fun h0 => ?_⟩
    rw [h0, Nat.zero_mul] at e1
    simp; omega
  have hsz : sg (decide (z < 0)) a * g = z := by
    have e3 : ((a : Int) * g) = (z.natAbs : Int) := by rw [e1]; push_cast; rfl
    unfold sg
    by_cases h : z < 0
    · rw [if_pos (by simpa using h), Int.neg_mul, e3]; omega
    · rw [if_neg (by simpa using h), e3]; omega
  have hr : Rep (fr (decide (z < 0)) a b) z d := by
    refine ⟨hd, _, a, b, rfl, hk, ?_⟩
    have e4 : (d : Int) = b * g := by rw [e2]; push_cast; rfl
    rw [e4]
    grind
  exact ⟨_, hr.made, hr⟩
theorem Rep.inj {x y : F} {z z' : Int} {d d' : Nat} (h : Rep x z d) (k : Rep y z' d') : x = y ↔ z * d' = z' * d := by
  constructor
  · rintro rfl
    obtain ⟨hd, s, a, b, e, hk, h1⟩ := h
    obtain ⟨hd', s', a', b', e', hk', h2⟩ := k
    rw [e] at e'
    unfold fr at e'
    injection e' with f0 f1 f2
    have f1 := limbs_inj f1
    have f2 := limbs_inj f2
    subst f0; subst f1; subst f2
    have hb : (0 : Int) < b := by have := hk.pos; omega
    have h3 : (z * d') * b = (z' * d) * b := by grind
    exact Int.eq_of_mul_eq_mul_right (by omega) h3
  · intro he
    have h1 := h.made
    rw [madeZ_cong h.1 k.1 he, k.made] at h1
    exact (congrArg Prod.fst h1).symm

theorem sumN_sg (n1 n2 : Bool) (a b c d : Nat) : sumN n1 a b n2 c d = madeZ (sg n1 a * d + sg n2 c * b) (b * d) := by
  have h1 : ((a * d : Nat) : Int) = (a : Int) * d := by push_cast; rfl
  have h2 : ((c * b : Nat) : Int) = (c : Int) * b := by push_cast; rfl
  unfold sumN
  cases n1 <;> cases n2
  · rw [if_pos rfl, made_sg]
    congr 1
  · rw [if_neg (by simp)]
    by_cases h : a * d < c * b
    · rw [if_pos h, made_sg]
      congr 1
      unfold sg
      simp only [Bool.false_eq_true, if_false, if_true, Int.neg_mul]
      omega
    · rw [if_neg h, made_sg]
      congr 1
      unfold sg
      simp only [Bool.false_eq_true, if_false, if_true, Int.neg_mul]
      omega
  · rw [if_neg (by simp)]
    by_cases h : a * d < c * b
    · rw [if_pos h, made_sg]
      congr 1
      unfold sg
      simp only [Bool.false_eq_true, if_false, if_true, Int.neg_mul]
      omega
    · rw [if_neg h, made_sg]
      congr 1
      unfold sg
      simp only [Bool.false_eq_true, if_false, if_true, Int.neg_mul]
      omega
  · rw [if_pos rfl, made_sg]
    congr 1
    unfold sg
    simp only [if_true, Int.neg_mul]
    omega
theorem sg_not (s : Bool) (c : Nat) : sg (!s && decide (0 < c)) c = - sg s c := by
  unfold sg
  rcases Nat.eq_zero_or_pos c with h | h
  · subst h; simp
  · cases s <;> simp [h]
theorem rep_add {x y : F} {z z' : Int} {d d' : Nat} (h : Rep x z d) (k : Rep y z' d') : opF sumN x y = madeZ (z * d' + z' * d) (d * d') := by
  obtain ⟨hd, s, a, b, rfl, hk, h1⟩ := h
  obtain ⟨hd', s', a', b', rfl, hk', h2⟩ := k
  rw [opF_fr hk hk', sumN_sg]
  refine madeZ_cong (Nat.mul_pos hk.pos hk'.pos) (Nat.mul_pos hd hd') ?_
  push_cast
  grind
theorem rep_sub {x y : F} {z z' : Int} {d d' : Nat} (h : Rep x z d) (k : Rep y z' d') : opF subN x y = madeZ (z * d' - z' * d) (d * d') := by
  obtain ⟨hd, s, a, b, rfl, hk, h1⟩ := h
  obtain ⟨hd', s', a', b', rfl, hk', h2⟩ := k
  rw [opF_fr hk hk']
  unfold subN
  rw [sumN_sg, sg_not]
  refine madeZ_cong (Nat.mul_pos hk.pos hk'.pos) (Nat.mul_pos hd hd') ?_
  push_cast
  grind
theorem sg_mul (s t : Bool) (a c : Nat) : sg (!(s == t)) (a * c) = sg s a * sg t c := by
  unfold sg
  cases s <;> cases t <;> simp [Int.neg_mul, Int.mul_neg]
theorem rep_mul {x y : F} {z z' : Int} {d d' : Nat} (h : Rep x z d) (k : Rep y z' d') : opF mulN x y = madeZ (z * z') (d * d') := by
  obtain ⟨hd, s, a, b, rfl, hk, h1⟩ := h
  obtain ⟨hd', s', a', b', rfl, hk', h2⟩ := k
  rw [opF_fr hk hk']
  unfold mulN
  rw [made_sg, sg_mul]
  refine madeZ_cong (Nat.mul_pos hk.pos hk'.pos) (Nat.mul_pos hd hd') ?_
  push_cast
  grind
theorem ordN_sg (n1 n2 : Bool) (a b c d : Nat) (hb : 0 < b) (hd : 0 < d) (h1 : a = 0 → n1 = false) (h2 : c = 0 → n2 = false) : ordN n1 a b n2 c d = if sg n1 a * d < sg n2 c * b then -1 else if sg n1 a * d = sg n2 c * b then 0 else 1 := by
  have e1 : ((a * d : Nat) : Int) = (a : Int) * d := by push_cast; rfl
  have e2 : ((c * b : Nat) : Int) = (c : Int) * b := by push_cast; rfl
  unfold ordN sg
  cases n1 <;> cases n2
  · simp only [if_true, Bool.false_eq_true, if_false, ← e1, ← e2, Int.ofNat_lt, Int.natCast_inj]
  · have hc : 0 < c := by
      rcases Nat.eq_zero_or_pos c with h | h
      · exact absurd (h2 h) (by simp)
      · exact h
    have := Nat.mul_pos hc hb
    simp only [Bool.false_eq_true, if_false, if_true, Int.neg_mul, ← e1, ← e2]
    rw [if_neg (by omega), if_neg (by omega)]
  · have hc : 0 < a := by
      rcases Nat.eq_zero_or_pos a with h | h
      · exact absurd (h1 h) (by simp)
      · exact h
    have := Nat.mul_pos hc hd
    simp only [Bool.false_eq_true, if_false, if_true, Int.neg_mul, ← e1, ← e2]
    rw [if_neg (by simp), if_pos (by omega)]
  · simp only [if_true, Int.neg_mul, ← e1, ← e2]
    by_cases g1 : a * d < c * b
    · rw [if_pos g1, if_neg (by omega), if_neg (by omega)]; rfl
    · rw [if_neg g1]
      by_cases g2 : a * d = c * b
      · rw [if_pos g2, if_neg (by omega), if_pos (by omega)]; rfl
      · rw [if_neg g2, if_pos (by omega)]
theorem rep_cmp {x y : F} {z z' : Int} {d d' : Nat} (h : Rep x z d) (k : Rep y z' d') : cmpF x y = (if z * d' < z' * d then -1 else if z * d' = z' * d then 0 else 1, 0) := by
  obtain ⟨hd, s, a, b, rfl, hk, h1⟩ := h
  obtain ⟨hd', s', a', b', rfl, hk', h2⟩ := k
  rw [cmpF_yes ⟨validF_fr.2 hk, validF_fr.2 hk'⟩]
  show (ordN s (val (limbs a)) (val (limbs b)) s' (val (limbs a')) (val (limbs b')), (0 : Int)) = _
  rw [val_limbs, val_limbs, val_limbs, val_limbs, ordN_sg _ _ _ _ _ _ hk.pos hk'.pos hk.sign hk'.sign]
  have hb : (0 : Int) < b := by have := hk.pos; omega
  have hb' : (0 : Int) < b' := by have := hk'.pos; omega
  have hP : (0 : Int) < (d : Int) * d' := Int.mul_pos (by omega) (by omega)
  have hQ : (0 : Int) < (b : Int) * b' := Int.mul_pos hb hb'
  have e : (sg s a * b' - sg s' a' * b) * (d * d') = (z * d' - z' * d) * (b * b') := by grind
  have l1 : (sg s a * b' < sg s' a' * b ↔ z * d' < z' * d) := by
    constructor
    · intro h
      have : (sg s a * b' - sg s' a' * b) * (d * d') < 0 := Int.mul_neg_of_neg_of_pos (by omega) hP
      rw [e] at this
      rcases Int.lt_or_le (z * d') (z' * d) with g | g
      · exact g
      · have : 0 ≤ (z * d' - z' * d) * (b * b') := Int.mul_nonneg (by omega) (by omega)
        omega
    · intro h
      have : (z * d' - z' * d) * (b * b') < 0 := Int.mul_neg_of_neg_of_pos (by omega) hQ
      rw [← e] at this
      rcases Int.lt_or_le (sg s a * b') (sg s' a' * b) with g | g
      · exact g
      · have : 0 ≤ (sg s a * b' - sg s' a' * b) * (d * d') := Int.mul_nonneg (by omega) (by omega)
        omega
  have l2 : (sg s a * b' = sg s' a' * b ↔ z * d' = z' * d) := by
    constructor
    · intro h
      have : (z * d' - z' * d) * (b * b') = 0 := by rw [← e, h]; simp
      rcases Int.mul_eq_zero.1 this with g | g <;> omega
    · intro h
      have : (sg s a * b' - sg s' a' * b) * (d * d') = 0 := by rw [e, h]; simp
      rcases Int.mul_eq_zero.1 this with g | g <;> omega
  simp only [l1, l2]
end Go.Proofs.Ytaojdlcailpheaa

namespace Go.Proofs.Ytaojdlcailpheaa
open Go.RowKit

/-- The tail at k, at the rate j / den, is above the bound x / y. -/
def UpB (n k x y den j : Nat) : Prop := den ^ n * x < tl j (den - j) n k * y
theorem upB_red {n k x y den j g a b : Nat} (hg : 0 < g) (hj : j = g * a) (hd : den = g * b) (hab : a ≤ b) : UpB n k x y den j ↔ (a + (b - a)) ^ n * x < tl a (b - a) n k * y := by
  subst hj; subst hd
  unfold UpB
  have e1 : g * b - g * a = g * (b - a) := by rw [Nat.mul_sub]
  have e2 : a + (b - a) = b := by omega
  rw [e1, tl_scale, Nat.mul_pow, e2, Nat.mul_assoc, Nat.mul_assoc]
  exact Nat.mul_lt_mul_left (Nat.pow_pos hg)
theorem of_rate {j den : Nat} (hd : 0 < den) (hj : j ≤ den) (hb : den ≤ 1000) : ∃ g a b, 0 < g ∧ j = g * a ∧ den = g * b ∧ a ≤ b ∧ 0 < b ∧ b ≤ 1000 ∧ ofF (j : Int) (den : Int) = (fr false a b, 0) := by
  have hg : 0 < Nat.gcd j den := Nat.gcd_pos_of_pos_right _ hd
  obtain ⟨a, ha⟩ := Nat.gcd_dvd_left j den
  obtain ⟨b, hb'⟩ := Nat.gcd_dvd_right j den
  have e1 : j / Nat.gcd j den = a := Nat.div_eq_of_eq_mul_right hg ha
  have e2 : den / Nat.gcd j den = b := Nat.div_eq_of_eq_mul_right hg hb'
  have hle : a ≤ b := by rw [← e1, ← e2]; exact Nat.div_le_div_right hj
  have hb0 : 0 < b := by
    rcases Nat.eq_zero_or_pos b with h | h
    · rw [h, Nat.mul_zero] at hb'; omega
    · exact h
  have hb1 : b ≤ 1000 := by rw [← e2]; exact Nat.le_trans (Nat.div_le_self _ _) hb
  refine ⟨Nat.gcd j den, a, b, hg, ha, hb', hle, hb0, hb1, ?_⟩
  have l1 : (limbs a).length ≤ 2 := limbs_mid (by omega)
  have l2 : (limbs b).length ≤ 2 := limbs_mid (by omega)
  unfold ofF
  rw [if_neg (by omega)]
  have e3 : (!(decide ((j : Int) < 0) == decide ((den : Int) < 0))) = false := by
    have h1 : ¬ ((j : Int) < 0) := by omega
    have h2 : ¬ ((den : Int) < 0) := by omega
    simp [h1, h2]
  rw [e3]
  show made false j den = _
  unfold made
  rw [e1, e2, if_neg (by omega)]
  rfl

end Go.Proofs.Ytaojdlcailpheaa

namespace Go.Proofs.Ytaojdlcailpheaa
open Go.RowKit

end Go.Proofs.Ytaojdlcailpheaa

namespace Go.Proofs.Ytaojdlcailpheaa
open Go.RowKit

/-- Where Upper's test first holds, as sort.Search finds it. -/
def UpR (n k x y den m : Nat) : Prop := m ≤ den + 1 ∧ (m = 0 ∨ ¬ UpB n k x y den (m - 1)) ∧ (m = den + 1 ∨ UpB n k x y den m)
/-- What Upper returns. -/
def upperF (n k : Int) (b : F) (den : Int) (r : Int × Int) : Prop :=
  if fracE b = 0 then
    (if trialsB n k (IntKind.i64.wrap (n + 1)) = true ∧ 1 ≤ den ∧ den ≤ 1000 then
      ∃ m : Nat, UpR n.toNat k.toNat (val b.num) (val b.den) den.toNat m ∧ r = if den < (m : Int) then (0, 7) else ((m : Int), 0)
    else r = (0, 2))
  else r = (0, fracE b)

theorem start4 (w : World) (n k den : Int) (A : Array Value) : ∃ W0, W0 = (((w.alloc (.cells #[.int .i64 n] 3)).alloc (.cells #[.int .i64 k] 3)).alloc (.cells A 25)).alloc (.cells #[.int .i64 den] 3) ∧
    Box W0 w.heap.size #[.int .i64 n] 3 ∧ Box W0 (w.heap.size + 1) #[.int .i64 k] 3 ∧ Box W0 (w.heap.size + 1 + 1) A 25 ∧ Box W0 (w.heap.size + 1 + 1 + 1) #[.int .i64 den] 3 ∧ W0.heap.size = w.heap.size + 4 ∧ Below w.heap.size w W0 :=
  ⟨_, rfl, fourA rfl, fourB rfl, fourC rfl, fourD rfl, by simp, held_alloc (held_alloc (held_alloc (held_alloc (Below.refl _ w))))⟩

end Go.Proofs.Ytaojdlcailpheaa

namespace Go.Proofs.Ytaojdlcailpheaa
open Go.RowKit

end Go.Proofs.Ytaojdlcailpheaa

namespace Go.Proofs.Ytaojdlcailpheaa
open Go.RowKit

theorem after_new {wi w2 : World} {cs : Array Value} {t : TypeId} (hb : Below (wi.alloc (.cells cs t)).heap.size (wi.alloc (.cells cs t)) w2) : Below wi.heap.size wi w2 ∧ Box w2 wi.heap.size cs t :=
  ⟨((Below.refl _ wi).alloc (Nat.le_refl _) _).trans (hb.mono (by simp)), (Box.new wi cs t).after hb⟩

/-- The error that Upper returns where it returns one at once. -/
def upErr (s : Int) : Int := if s = 0 then 2 else s
theorem upB_mono {n k x y den i j : Nat} (hij : i ≤ j) (hj : j ≤ den) (h : UpB n k x y den i) : UpB n k x y den j :=
  Nat.lt_of_lt_of_le h (Nat.mul_le_mul_right y (tl_rate (by omega) hij n k))
theorem upR_uniq {n k x y den r s : Nat} (h1 : UpR n k x y den r) (h2 : UpR n k x y den s) : r = s := by
  obtain ⟨a1, a2, a3⟩ := h1
  obtain ⟨b1, b2, b3⟩ := h2
  rcases Nat.lt_trichotomy r s with h | h | h
  · have h3 := b2.resolve_left (by omega)
    exact absurd (upB_mono (by omega) (by omega) (a3.resolve_left (by omega))) h3
  · exact h
  · have h3 := a2.resolve_left (by omega)
    exact absurd (upB_mono (by omega) (by omega) (b3.resolve_left (by omega))) h3

theorem upperF_uniq {n k den : Int} {Y : F} {r s : Int × Int} (h1 : upperF n k Y den r) (h2 : upperF n k Y den s) : r = s := by
  unfold upperF at h1 h2
  by_cases hs : fracE Y = 0
  · rw [if_pos hs] at h1 h2
    by_cases hc : trialsB n k (IntKind.i64.wrap (n + 1)) = true ∧ 1 ≤ den ∧ den ≤ 1000
    · rw [if_pos hc] at h1 h2
      obtain ⟨m, hm, rfl⟩ := h1
      obtain ⟨l, hl, rfl⟩ := h2
      rw [upR_uniq hm hl]
    · rw [if_neg hc] at h1 h2
      rw [h1, h2]
  · rw [if_neg hs] at h1 h2
    rw [h1, h2]
end Go.Proofs.Ytaojdlcailpheaa

namespace Go.Proofs.Ytaojdlcailpheaa
open Go.RowKit

end Go.Proofs.Ytaojdlcailpheaa

namespace Go.Proofs.Ytaojdlcailpheaa
open Go.RowKit

/-- A row cut to 34 limbs. -/
def cut34 (x : F) : F := ⟨x.neg, x.num.take 34, x.den.take 34⟩
/-- Fewer trials. -/
def fewN (n : Int) : Int := if 20 < n ∧ n < 64 then 20 else n

theorem Sl.cut {w : World} {p : Option Addr} {c : Nat} {l : List Nat} (h : Sl w (.slice p l.length c) l) : Sl w (.slice p (min (l.length : Int) 34).toNat c) (l.take 34) := by
  have := h.front (min l.length 34) (by omega)
  have e1 : (min (l.length : Int) 34).toNat = min l.length 34 := by omega
  have e2 : l.take (min l.length 34) = l.take 34 := by
    rcases Nat.le_total l.length 34 with h1 | h1
    · rw [Nat.min_eq_left h1, List.take_of_length_le h1, List.take_of_length_le (Nat.le_refl _)]
    · rw [Nat.min_eq_right h1]
  rw [e1, ← e2]; exact this

end Go.Proofs.Ytaojdlcailpheaa

namespace Go.Proofs.Ytaojdlcailpheaa
open Go.RowKit

theorem below_dn {w w' : World} (h : ∃ n, w' = w.drewN n) : Below w.heap.size w w' := by
  obtain ⟨n, rfl⟩ := h; exact below_drewN _ _ _
theorem below_same {w w' : World} (h : w' = w) : Below w.heap.size w w' := h ▸ Below.refl _ _
theorem IsF.set3 {w : World} {v : Value} {x : F} {R : Nat} {x0 x1 x2 : Value} {t : TypeId} (h : IsF w v x) (hR : Box w R #[x0, x1, x2] t) (h0 : ∀ x, x0 ≠ .int .u32 x) (h1 : ∀ x, x1 ≠ .int .u32 x) (h2 : ∀ x, x2 ≠ .int .u32 x) (y0 y1 y2 : Value) :
    IsF (((w.setCell ⟨R, 0, none⟩ y0).setCell ⟨R, 1, none⟩ y1).setCell ⟨R, 2, none⟩ y2) v x := by
  obtain ⟨c0, c1, c2⟩ := hR.cells3
  refine ((h.setN c0 h0 y0).setN (u0 := x1) ?_ h1 y1).setN (u0 := x2) ?_ h2 y2
  · rw [World.cell?_setCell_other _ _ _ _ (fun e => by injection e with e1 e2; cases e2)]; exact c1
  · rw [World.cell?_setCell_other _ _ _ _ (fun e => by injection e with e1 e2; cases e2), World.cell?_setCell_other _ _ _ _ (fun e => by injection e with e1 e2; cases e2)]; exact c2
theorem IsF.via {w w' : World} {v : Value} {x : F} (h : IsF w v x) (k : ∀ v l, Sl w v l → Sl w' v l) : IsF w' v x := by
  obtain ⟨va, vb, e, h1, h2⟩ := h
  exact ⟨va, vb, e, k _ _ h1, k _ _ h2⟩
theorem Sl.via {w w' : World} {v : Value} {l : List Nat} (h : Sl w v l) (k : ∀ v l, Sl w v l → Sl w' v l) : Sl w' v l := k _ _ h
theorem after_set {wi w2 : World} {R : Nat} {x0 x1 x2 y0 y1 y2 : Value} {t : TypeId} (hR : Box wi R #[x0, x1, x2] t) (h0 : ∀ x, x0 ≠ .int .u32 x) (h1 : ∀ x, x1 ≠ .int .u32 x) (h2 : ∀ x, x2 ≠ .int .u32 x)
    (hb : Below (((wi.setCell ⟨R, 0, none⟩ y0).setCell ⟨R, 1, none⟩ y1).setCell ⟨R, 2, none⟩ y2).heap.size (((wi.setCell ⟨R, 0, none⟩ y0).setCell ⟨R, 1, none⟩ y1).setCell ⟨R, 2, none⟩ y2) w2) :
    (∀ S cs u, S ≠ R → Box wi S cs u → Box w2 S cs u) ∧ (∀ v l, Sl wi v l → Sl w2 v l) ∧ (∀ B w, Below B w wi → B ≤ R → Below B w w2) ∧ Box w2 R #[y0, y1, y2] t := by
  refine ⟨fun S cs u hne hS => (far_box hS hne).after hb, fun v l hl => ?_, fun B w hw hB => (((hw.setCell (p := ⟨R, 0, none⟩) hB _).setCell (p := ⟨R, 1, none⟩) hB _).setCell (p := ⟨R, 2, none⟩) hB _).trans (hb.mono ?_), (end_box hR).after hb⟩
  · obtain ⟨c0, c1, c2⟩ := hR.cells3
    refine (((hl.setN c0 h0 y0).setN (u0 := x1) ?_ h1 y1).setN (u0 := x2) ?_ h2 y2).after hb
    · rw [World.cell?_setCell_other _ _ _ _ (fun e => by injection e with e1 e2; cases e2)]; exact c1
    · rw [World.cell?_setCell_other _ _ _ _ (fun e => by injection e with e1 e2; cases e2), World.cell?_setCell_other _ _ _ _ (fun e => by injection e with e1 e2; cases e2)]; exact c2
  · exact Nat.le_trans hB (Nat.le_of_lt (end_box hR).lt)
theorem small_ok {n d : Nat} (hn : n < 4294967296) (hd : d < 4294967296) (h0 : 0 < d) (hg : Nat.gcd n d = 1) : Ok false n d :=
  ⟨Nat.le_trans (limbs_len_lt (k := 1) (by omega)) (by omega), Nat.le_trans (limbs_len_lt (k := 1) (by omega)) (by omega), h0, hg, fun _ => rfl⟩
theorem made_red {g a b : Nat} (hg : 0 < g) (h : Ok false a b) : made false (g * a) (g * b) = (fr false a b, 0) := by
  unfold made
  rw [Nat.gcd_mul_left, h.gcd, Nat.mul_one, Nat.mul_div_cancel_left _ hg, Nat.mul_div_cancel_left _ hg, if_neg]
  · simp
  · have := h.n32; have := h.d32; omega
theorem made_ok {a b : Nat} (h : Ok false a b) : made false a b = (fr false a b, 0) := by
  have := made_red (g := 1) (by omega) h
  rwa [Nat.one_mul, Nat.one_mul] at this
theorem ofF_nat (n d : Nat) (hd : 0 < d) : ofF (n : Int) (d : Int) = made false n d := by
  unfold ofF
  rw [if_neg (by omega)]
  have h1 : decide ((n : Int) < 0) = false := by simp
  have h2 : decide ((d : Int) < 0) = false := by simp
  rw [h1, h2]
  simp
theorem ofF_ok {a b : Nat} {z y : Int} (hz : z = a) (hy : y = b) (h : Ok false a b) : ofF z y = (fr false a b, 0) := by
  subst hz; subst hy
  rw [ofF_nat _ _ h.pos, made_ok h]
theorem fracE_ok {a b : Nat} (h : Ok false a b) (hab : a ≤ b) : fracE (fr false a b) = 0 := by
  rw [fracE_yes (validF_fr.2 h)]
  rw [if_neg]
  show ¬ (false = true ∨ val (limbs b) < val (limbs a))
  rw [val_limbs, val_limbs]
  simp; omega
theorem rateE_ok {a b : Nat} (h : Ok false a b) (hab : a ≤ b) (hb : b ≤ 1000) : rateE (fr false a b) = 0 := by
  rw [rateE_good (fracE_ok h hab), if_neg]
  show ¬ 1000 < val (limbs b)
  rw [val_limbs]; omega
theorem exactlyF_val {n k a b : Nat} (h : Ok false a b) (hab : a ≤ b) (hb : b ≤ 1000) (hn : n ≤ 64) (hk : k ≤ n) : exactlyF (n : Int) (k : Int) (fr false a b) = made false (ex a (b - a) n k) (b ^ n) := by
  unfold exactlyF
  have ht : trialsB (n : Int) (k : Int) (n : Int) = true := trialsB_iff.2 ⟨by omega, by omega, by omega, by omega⟩
  rw [ht, if_pos (checkE_true (rateE_ok h hab hb))]
  show made false (ex (val (limbs a)) (val (limbs b) - val (limbs a)) _ _) (val (limbs b) ^ _) = _
  rw [val_limbs, val_limbs]; simp
theorem tailF_val {n k a b : Nat} (h : Ok false a b) (hab : a ≤ b) (hb : b ≤ 1000) (hn : n ≤ 64) (hk : k ≤ n + 1) : tailF (n : Int) (k : Int) (fr false a b) = made false (tl a (b - a) n k) (b ^ n) := by
  unfold tailF
  have hw : IntKind.i64.wrap ((n : Int) + 1) = (n : Int) + 1 := wrap_in (by omega) (by omega)
  have ht : trialsB (n : Int) (k : Int) ((n : Int) + 1) = true := trialsB_iff.2 ⟨by omega, by omega, by omega, by omega⟩
  rw [hw, ht, if_pos (checkE_true (rateE_ok h hab hb))]
  show made false (tl (val (limbs a)) (val (limbs b) - val (limbs a)) _ _) (val (limbs b) ^ _) = _
  rw [val_limbs, val_limbs]; simp
theorem chooseF_val {n k : Nat} (hn : n ≤ 64) (hk : k ≤ n) : chooseF (n : Int) (k : Int) = (limbs (ch n k), 0) := by
  unfold chooseF
  have ht : trialsB (n : Int) (k : Int) (n : Int) = true := trialsB_iff.2 ⟨by omega, by omega, by omega, by omega⟩
  rw [if_pos ht]; simp
theorem critF_val {n a b x y : Nat} {r : Int × Int} (h : Ok false a b) (hab : a ≤ b) (hb : b ≤ 1000) (hn : n ≤ 64) (g : Ok false x y) (hxy : x ≤ y) (hr : critF (n : Int) (fr false a b) (fr false x y) r) : ∃ m : Nat, r = ((m : Int), 0) ∧ CritR n a (b - a) x y m := by
  unfold critF at hr
  have ht : trialsB (n : Int) 0 0 = true := trialsB_iff.2 ⟨by omega, by omega, by omega, by omega⟩
  rw [ht, if_pos ⟨checkE_true (rateE_ok h hab hb), fracE_ok g hxy⟩] at hr
  obtain ⟨m, hm, hc⟩ := hr
  refine ⟨m, hm, ?_⟩
  change CritR _ (val (limbs a)) (val (limbs b) - val (limbs a)) (val (limbs x)) (val (limbs y)) m at hc
  rw [val_limbs, val_limbs, val_limbs, val_limbs] at hc
  simpa using hc
theorem upperF_val {n k x y den : Nat} {r : Int × Int} (hn : n ≤ 64) (hk : k ≤ n + 1) (g : Ok false x y) (hxy : x ≤ y) (hd0 : 1 ≤ den) (hd1 : den ≤ 1000) (hr : upperF (n : Int) (k : Int) (fr false x y) (den : Int) r) : ∃ m : Nat, UpR n k x y den m ∧ r = if (den : Int) < (m : Int) then (0, 7) else ((m : Int), 0) := by
  unfold upperF at hr
  have hw : IntKind.i64.wrap ((n : Int) + 1) = (n : Int) + 1 := wrap_in (by omega) (by omega)
  have ht : trialsB (n : Int) (k : Int) ((n : Int) + 1) = true := trialsB_iff.2 ⟨by omega, by omega, by omega, by omega⟩
  rw [if_pos (fracE_ok g hxy), hw, ht, if_pos ⟨rfl, by omega, by omega⟩] at hr
  obtain ⟨m, hm, hc⟩ := hr
  refine ⟨m, ?_, hc⟩
  change UpR _ _ (val (limbs x)) (val (limbs y)) _ m at hm
  rw [val_limbs, val_limbs] at hm
  simpa using hm

theorem ok13 : Ok false 1 3 := small_ok (by omega) (by omega) (by omega) (by decide)
theorem ok110 : Ok false 1 10 := small_ok (by omega) (by omega) (by omega) (by decide)
theorem ok12 : Ok false 1 2 := small_ok (by omega) (by omega) (by omega) (by decide)
theorem tl_41 : tl 1 2 4 1 = 65 := by simp [tl_le, tl_gt, ex, ch]
theorem w_third : ofF 1 3 = (fr false 1 3, 0) := ofF_ok (a := 1) (b := 3) rfl rfl ok13
theorem w_tenth : ofF 1 10 = (fr false 1 10, 0) := ofF_ok (a := 1) (b := 10) rfl rfl ok110
theorem w_half : ofF 1 2 = (fr false 1 2, 0) := ofF_ok (a := 1) (b := 2) rfl rfl ok12
theorem w_choose : chooseF 5 2 = ([10], 0) := by
  have := chooseF_val (n := 5) (k := 2) (by omega) (by omega)
  rw [show ch 5 2 = 10 by decide, limbs_small (by omega) (by omega)] at this
  exact this
theorem w_exactly : exactlyF 4 1 (fr false 1 3) = (fr false 32 81, 0) := by
  have := exactlyF_val (n := 4) (k := 1) ok13 (by omega) (by omega) (by omega) (by omega)
  rw [show ex 1 (3 - 1) 4 1 = 32 by decide, show 3 ^ 4 = 81 by decide, made_ok (small_ok (by omega) (by omega) (by omega) (by decide))] at this
  exact this
theorem w_tail : tailF 4 1 (fr false 1 3) = (fr false 65 81, 0) := by
  have := tailF_val (n := 4) (k := 1) ok13 (by omega) (by omega) (by omega) (by omega)
  rw [show 3 - 1 = 2 by decide, tl_41, show 3 ^ 4 = 81 by decide, made_ok (small_ok (by omega) (by omega) (by omega) (by decide))] at this
  exact this
theorem w_32 : (ofF 32 81).1 = fr false 32 81 := congrArg Prod.fst (ofF_ok (a := 32) (b := 81) rfl rfl (small_ok (by omega) (by omega) (by omega) (by decide)))
theorem w_65 : (ofF 65 81).1 = fr false 65 81 := congrArg Prod.fst (ofF_ok (a := 65) (b := 81) rfl rfl (small_ok (by omega) (by omega) (by omega) (by decide)))
theorem w_crit {r : Int × Int} (h : critF 4 (fr false 1 3) (fr false 1 10) r) : r = (4, 0) := by
  obtain ⟨m, rfl, hm⟩ := critF_val (n := 4) ok13 (by omega) (by omega) (by omega) ok110 (by omega) h
  have h4 : CritR 4 1 (3 - 1) 1 10 4 := .inl ⟨3, by omega, by simp [Abv, tl_le, tl_gt, ex, ch], fun j h1 h2 => by
    obtain rfl : j = 4 := by omega
    simp [Abv, tl_le, tl_gt, ex, ch], rfl⟩
  rw [critR_uniq hm h4]; rfl
theorem w_upper {r : Int × Int} (h : upperF 4 1 (fr false 1 2) 10 r) : r = (2, 0) := by
  obtain ⟨m, hm, rfl⟩ := upperF_val (n := 4) (k := 1) (den := 10) (by omega) (by omega) ok12 (by omega) (by omega) (by omega) h
  have h2 : UpR 4 1 1 2 10 2 := ⟨by omega, .inr (by simp [UpB, tl_le, tl_gt, ex, ch]), .inr (by simp [UpB, tl_le, tl_gt, ex, ch])⟩
  rw [upR_uniq hm h2]; rfl
end Go.Proofs.Ytaojdlcailpheaa

namespace Go.Proofs.Ytaojdlcailpheaa

theorem of_small {j den : Nat} (hj : j ≤ den) (hd : 0 < den) (hb : den ≤ 1000) : ∃ a b, ofF (j : Int) (den : Int) = (fr false a b, 0) ∧ Ok false a b ∧ a ≤ b ∧ b ≤ 1000 ∧ Rep (fr false a b) (j : Int) den ∧ (∃ g, 0 < g ∧ j = g * a ∧ den = g * b) := by
  obtain ⟨a, b, hab, e1, e2⟩ := Nat.exists_coprime j den
  have hg : 0 < Nat.gcd j den := Nat.gcd_pos_of_pos_right _ hd
  generalize Nat.gcd j den = g at *
  have hb0 : 0 < b := by
    rcases Nat.eq_zero_or_pos b with h0 | h0
    · rw [h0, Nat.zero_mul] at e2; omega
    · exact h0
  have lb : b ≤ den := by rw [e2]; exact Nat.le_mul_of_pos_right _ hg
  have la : a ≤ b := by
    rw [e1, e2] at hj
    exact Nat.le_of_mul_le_mul_right hj hg
  have hk : Ok false a b := small_ok (by omega) (by omega) hb0 hab
  have e3 : ofF (j : Int) (den : Int) = (fr false a b, 0) := by
    rw [ofF_nat _ _ hd, e1, e2, Nat.mul_comm a, Nat.mul_comm b]
    exact made_red hg hk
  refine ⟨a, b, e3, hk, la, by omega, (rep_of_ok hk).cong hd ?_, g, hg, by rw [e1, Nat.mul_comm], by rw [e2, Nat.mul_comm]⟩
  show (a : Int) * den = j * b
  rw [e1, e2]; push_cast; ac_rfl

/-- The tail at k, as a fraction. -/
noncomputable def Tq (a b m k : Nat) : F := (made false (tl a (b - a) m k) (b ^ m)).1
/-- The part of exactly k, as a fraction. -/
noncomputable def Eq_ (a b m k : Nat) : F := (made false (ex a (b - a) m k) (b ^ m)).1
theorem made_nat (n d : Nat) : made false n d = madeZ (n : Int) d := made_sg false n d
theorem tailF_q {a b m k : Nat} (h : Ok false a b) (hab : a ≤ b) (hb : b ≤ 1000) (hm : m ≤ 64) (hk : k ≤ m + 1) : tailF (m : Int) (k : Int) (fr false a b) = (Tq a b m k, 0) ∧ Rep (Tq a b m k) (tl a (b - a) m k : Nat) (b ^ m) := by
  have hd : 0 < b ^ m := Nat.pow_pos h.pos
  obtain ⟨x, hx, hr⟩ := rep_of_made (z := ((tl a (b - a) m k : Nat) : Int)) hd (by rw [Int.natAbs_natCast]; exact Nat.le_trans (tl_limbs hab hb hm) (by omega)) (Nat.le_trans (pow_limbs hb hm) (by omega))
  rw [tailF_val h hab hb hm hk]
  unfold Tq
  rw [made_nat, hx]
  exact ⟨rfl, hr⟩
theorem exactlyF_q {a b m k : Nat} (h : Ok false a b) (hab : a ≤ b) (hb : b ≤ 1000) (hm : m ≤ 64) (hk : k ≤ m) : exactlyF (m : Int) (k : Int) (fr false a b) = (Eq_ a b m k, 0) ∧ Rep (Eq_ a b m k) (ex a (b - a) m k : Nat) (b ^ m) := by
  have hd : 0 < b ^ m := Nat.pow_pos h.pos
  obtain ⟨x, hx, hr⟩ := rep_of_made (z := ((ex a (b - a) m k : Nat) : Int)) hd (by rw [Int.natAbs_natCast]; exact Nat.le_trans (ex_limbs hab hb hm) (by omega)) (Nat.le_trans (pow_limbs hb hm) (by omega))
  rw [exactlyF_val h hab hb hm hk]
  unfold Eq_
  rw [made_nat, hx]
  exact ⟨rfl, hr⟩
theorem rep_zero : Rep (fr false 0 1) 0 1 := rep_of_ok (small_ok (by omega) (by omega) (by omega) (by decide))
theorem rep_one : Rep (fr false 1 1) 1 1 := rep_of_ok (small_ok (by omega) (by omega) (by omega) (by decide))
theorem w_01 : (ofF 0 1).1 = fr false 0 1 := congrArg Prod.fst (ofF_ok (a := 0) (b := 1) rfl rfl (small_ok (by omega) (by omega) (by omega) (by decide)))
theorem w_11 : (ofF 1 1).1 = fr false 1 1 := congrArg Prod.fst (ofF_ok (a := 1) (b := 1) rfl rfl (small_ok (by omega) (by omega) (by omega) (by decide)))
/-- Behind the last failure there is nothing. -/
theorem Tq_last {a b m : Nat} (h : Ok false a b) (hab : a ≤ b) (hb : b ≤ 1000) (hm : m ≤ 64) : Tq a b m (m + 1) = fr false 0 1 := by
  have := (tailF_q (k := m + 1) h hab hb hm (Nat.le_refl _)).2
  rw [tl_gt (by omega)] at this
  exact (this.inj rep_zero).2 (by simp)
/-- All together is 1. -/
theorem Tq_zero {a b m : Nat} (h : Ok false a b) (hab : a ≤ b) (hb : b ≤ 1000) (hm : m ≤ 64) : Tq a b m 0 = fr false 1 1 := by
  have := (tailF_q (k := 0) h hab hb hm (by omega)).2
  rw [tl_all, show a + (b - a) = b by omega] at this
  exact (this.inj rep_one).2 (by push_cast; omega)
/-- The next tail and the part between are the tail. -/
theorem Tq_add {a b m k : Nat} (h : Ok false a b) (hab : a ≤ b) (hb : b ≤ 1000) (hm : m ≤ 64) (hk : k ≤ m) : opF sumN (Tq a b m (k + 1)) (Eq_ a b m k) = (Tq a b m k, 0) := by
  have h1 := (tailF_q (k := k + 1) h hab hb hm (by omega)).2
  have h2 := (exactlyF_q (k := k) h hab hb hm hk).2
  have h3 := (tailF_q (k := k) h hab hb hm (by omega)).2
  rw [rep_add h1 h2, ← h3.made]
  refine madeZ_cong (Nat.mul_pos h1.1 h2.1) h3.1 ?_
  rw [tl_le hk]
  push_cast
  generalize ((b : Int) ^ m) = D
  grind
theorem cmpF_same {x : F} (h : ValidF x) : cmpF x x = (0, 0) := by
  have he := h.eq
  have hk := h.2.2
  have hr := rep_of_ok hk
  rw [← he] at hr
  rw [rep_cmp hr hr, if_neg (by omega), if_pos rfl]
open Go.RowKit in
theorem after_new2 {wi w2 : World} {cs cs' : Array Value} {t t' : TypeId} (hb : Below ((wi.alloc (.cells cs t)).alloc (.cells cs' t')).heap.size ((wi.alloc (.cells cs t)).alloc (.cells cs' t')) w2) :
    Below wi.heap.size wi w2 ∧ Box w2 wi.heap.size cs t ∧ Box w2 (wi.heap.size + 1) cs' t' := by
  obtain ⟨h1, c2⟩ := after_new hb
  obtain ⟨h0, c1⟩ := after_new h1
  exact ⟨h0, c1, by simpa using c2⟩
end Go.Proofs.Ytaojdlcailpheaa
