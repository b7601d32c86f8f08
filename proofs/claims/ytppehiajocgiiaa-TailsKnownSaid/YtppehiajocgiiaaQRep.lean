/- Fractions by value: what the operations return at a fraction that is worth z / d, and when two are the same. No program in sight but the operations' own names. -/
import Derived.Test.YtppehiajocgiiaaK07
set_option linter.unusedVariables false
namespace Go.Proofs.Ytppehiajocgiiaa

def sg (s : Bool) (a : Nat) : Int := if s = true then -(a : Int) else a
/-- The fraction z / d in lowest terms, and its error. -/
noncomputable def madeZ (z : Int) (d : Nat) : F × Int := made (decide (z < 0)) z.natAbs d

theorem made_zero (s : Bool) (d : Nat) : made s 0 d = made false 0 d := by
  unfold made
  simp
theorem made_sg (s : Bool) (n d : Nat) : made s n d = madeZ (sg s n) d := by
  unfold madeZ sg
  cases s with
  | false =>
    have h : decide (((n : Nat) : Int) < 0) = false := by simp
    simp only [Bool.false_eq_true, if_false, h, Int.natAbs_natCast]
  | true =>
    rcases Nat.eq_zero_or_pos n with h0 | h0
    · subst h0
      rw [made_zero]
      rfl
    · have h : decide (-((n : Nat) : Int) < 0) = true := by simp; omega
      simp only [if_true, h, Int.natAbs_neg, Int.natAbs_natCast]
theorem nat_cong {n d n' d' : Nat} (hd : 0 < d) (hd' : 0 < d') (h : n * d' = n' * d) : n / Nat.gcd n d = n' / Nat.gcd n' d' ∧ d / Nat.gcd n d = d' / Nat.gcd n' d' := by
  obtain ⟨a, b, hab, e1, e2⟩ := Nat.exists_coprime n d
  obtain ⟨a', b', hab', e1', e2'⟩ := Nat.exists_coprime n' d'
  have hg : 0 < Nat.gcd n d := Nat.gcd_pos_of_pos_right _ hd
  have hg' : 0 < Nat.gcd n' d' := Nat.gcd_pos_of_pos_right _ hd'
  have q1 : n / Nat.gcd n d = a := Nat.div_eq_of_eq_mul_left hg e1
  have q2 : d / Nat.gcd n d = b := Nat.div_eq_of_eq_mul_left hg e2
  have q1' : n' / Nat.gcd n' d' = a' := Nat.div_eq_of_eq_mul_left hg' e1'
  have q2' : d' / Nat.gcd n' d' = b' := Nat.div_eq_of_eq_mul_left hg' e2'
  rw [q1, q2, q1', q2']
  generalize Nat.gcd n d = g at *
  generalize Nat.gcd n' d' = g' at *
  have hb : 0 < b := by
    rcases Nat.eq_zero_or_pos b with h0 | h0
    · rw [h0, Nat.zero_mul] at e2; omega
    · exact h0
  have key : a * b' = a' * b := by
    rw [e1, e2, e1', e2'] at h
    have h2 : (a * b') * (g * g') = (a' * b) * (g * g') := by
      calc (a * b') * (g * g') = a * g * (b' * g') := by ac_rfl
        _ = a' * g' * (b * g) := h
        _ = (a' * b) * (g * g') := by ac_rfl
    exact Nat.eq_of_mul_eq_mul_right (Nat.mul_pos hg hg') h2
  have d1 : b ∣ b' := Nat.Coprime.dvd_of_dvd_mul_left (Nat.Coprime.symm hab) ⟨a', by rw [key, Nat.mul_comm]⟩
  have d2 : b' ∣ b := Nat.Coprime.dvd_of_dvd_mul_left (Nat.Coprime.symm hab') ⟨a, by rw [← key, Nat.mul_comm]⟩
  have eb : b = b' := Nat.dvd_antisymm d1 d2
  subst eb
  exact ⟨Nat.eq_of_mul_eq_mul_right hb key, rfl⟩
theorem madeZ_cong {z z' : Int} {d d' : Nat} (hd : 0 < d) (hd' : 0 < d') (h : z * d' = z' * d) : madeZ z d = madeZ z' d' := by
  have hs : (z < 0 ↔ z' < 0) := by
    constructor
    · intro hz
      rcases Int.lt_or_le z' 0 with h1 | h1
      · exact h1
      · have h2 : z * d' < 0 := Int.mul_neg_of_neg_of_pos hz (by omega)
        have h3 : 0 ≤ z' * d := Int.mul_nonneg h1 (by omega)
        omega
    · intro hz
      rcases Int.lt_or_le z 0 with h1 | h1
      · exact h1
      · have h2 : z' * d < 0 := Int.mul_neg_of_neg_of_pos hz (by omega)
        have h3 : 0 ≤ z * d' := Int.mul_nonneg h1 (by omega)
        omega
  have hn : z.natAbs * d' = z'.natAbs * d := by
    have := congrArg Int.natAbs h
    rwa [Int.natAbs_mul, Int.natAbs_mul, Int.natAbs_natCast, Int.natAbs_natCast] at this
  obtain ⟨q1, q2⟩ := nat_cong hd hd' hn
  have hd2 : decide (z < 0) = decide (z' < 0) := by simp only [hs]
  unfold madeZ made
  rw [q1, q2, hd2]
theorem made_okS {s : Bool} {a b : Nat} (h : Ok s a b) : made s a b = (fr s a b, 0) := by
  unfold made
  rw [h.gcd, Nat.div_one, Nat.div_one, if_neg (by have := h.n32; have := h.d32; omega)]
  have : (s && decide (0 < a)) = s := by
    rcases Nat.eq_zero_or_pos a with h0 | h0
    · rw [h.sign h0]; rfl
    · simp [h0]
  rw [this]
theorem sg_natAbs (s : Bool) (a : Nat) : (sg s a).natAbs = a := by unfold sg; cases s <;> simp

/-- The fraction x is valid and worth z / d. -/
def Rep (x : F) (z : Int) (d : Nat) : Prop := 0 < d ∧ ∃ s a b, x = fr s a b ∧ Ok s a b ∧ sg s a * d = z * b
theorem Rep.valid {x : F} {z : Int} {d : Nat} (h : Rep x z d) : ValidF x := by
  obtain ⟨_, s, a, b, rfl, hk, _⟩ := h
  exact validF_fr.2 hk
theorem Rep.made {x : F} {z : Int} {d : Nat} (h : Rep x z d) : madeZ z d = (x, 0) := by
  obtain ⟨hd, s, a, b, rfl, hk, he⟩ := h
  rw [madeZ_cong hd hk.pos he.symm, ← made_sg, made_okS hk]
theorem Rep.fst {x : F} {z : Int} {d : Nat} (h : Rep x z d) : (madeZ z d).1 = x := by rw [h.made]
theorem rep_of_ok {s : Bool} {a b : Nat} (h : Ok s a b) : Rep (fr s a b) (sg s a) b := ⟨h.pos, s, a, b, rfl, h, rfl⟩
theorem Rep.cong {x : F} {z z' : Int} {d d' : Nat} (h : Rep x z d) (hd' : 0 < d') (he : z * d' = z' * d) : Rep x z' d' := by
  obtain ⟨hd, s, a, b, rfl, hk, h1⟩ := h
  refine ⟨hd', s, a, b, rfl, hk, ?_⟩
  have h2 : (sg s a * d') * d = (z' * b) * d := by grind
  exact Int.eq_of_mul_eq_mul_right (by omega) h2
theorem rep_of_made {z : Int} {d : Nat} (hd : 0 < d) (hz : (limbs z.natAbs).length ≤ 32) (hdl : (limbs d).length ≤ 32) : ∃ x, madeZ z d = (x, 0) ∧ Rep x z d := by
  obtain ⟨a, b, hab, e1, e2⟩ := Nat.exists_coprime z.natAbs d
  have hg : 0 < Nat.gcd z.natAbs d := Nat.gcd_pos_of_pos_right _ hd
  generalize Nat.gcd z.natAbs d = g at *
  have hb : 0 < b := by
    rcases Nat.eq_zero_or_pos b with h0 | h0
    · rw [h0, Nat.zero_mul] at e2; omega
    · exact h0
  have la : a ≤ z.natAbs := by rw [e1]; exact Nat.le_mul_of_pos_right _ hg
  have lb : b ≤ d := by rw [e2]; exact Nat.le_mul_of_pos_right _ hg
  have hk : Ok (decide (z < 0)) a b := by
    refine ⟨Nat.le_trans (limbs_len_mono la) hz, Nat.le_trans (limbs_len_mono lb) hdl, hb, hab, fun h0 => ?_⟩
    rw [h0, Nat.zero_mul] at e1
    simp; omega
  have hsz : sg (decide (z < 0)) a * g = z := by
    have e3 : ((a : Int) * g) = (z.natAbs : Int) := by rw [e1]; push_cast; rfl
    unfold sg
    by_cases h : z < 0
    · rw [if_pos (by simpa using h), Int.neg_mul, e3]; omega
    · rw [if_neg (by simpa using h), e3]; omega
  have hr : Rep (fr (decide (z < 0)) a b) z d := by
    refine ⟨hd, _, a, b, rfl, hk, ?_⟩
    have e4 : (d : Int) = b * g := by rw [e2]; push_cast; rfl
    rw [e4]
    grind
  exact ⟨_, hr.made, hr⟩
theorem Rep.inj {x y : F} {z z' : Int} {d d' : Nat} (h : Rep x z d) (k : Rep y z' d') : x = y ↔ z * d' = z' * d := by
  constructor
  · rintro rfl
    obtain ⟨hd, s, a, b, e, hk, h1⟩ := h
    obtain ⟨hd', s', a', b', e', hk', h2⟩ := k
    rw [e] at e'
    unfold fr at e'
    injection e' with f0 f1 f2
    have f1 := limbs_inj f1
    have f2 := limbs_inj f2
    subst f0; subst f1; subst f2
    have hb : (0 : Int) < b := by have := hk.pos; omega
    have h3 : (z * d') * b = (z' * d) * b := by grind
    exact Int.eq_of_mul_eq_mul_right (by omega) h3
  · intro he
    have h1 := h.made
    rw [madeZ_cong h.1 k.1 he, k.made] at h1
    exact (congrArg Prod.fst h1).symm

theorem sumN_sg (n1 n2 : Bool) (a b c d : Nat) : sumN n1 a b n2 c d = madeZ (sg n1 a * d + sg n2 c * b) (b * d) := by
  have h1 : ((a * d : Nat) : Int) = (a : Int) * d := by push_cast; rfl
  have h2 : ((c * b : Nat) : Int) = (c : Int) * b := by push_cast; rfl
  unfold sumN
  cases n1 <;> cases n2
  · rw [if_pos rfl, made_sg]
    congr 1
  · rw [if_neg (by simp)]
    by_cases h : a * d < c * b
    · rw [if_pos h, made_sg]
      congr 1
      unfold sg
      simp only [Bool.false_eq_true, if_false, if_true, Int.neg_mul]
      omega
    · rw [if_neg h, made_sg]
      congr 1
      unfold sg
      simp only [Bool.false_eq_true, if_false, if_true, Int.neg_mul]
      omega
  · rw [if_neg (by simp)]
    by_cases h : a * d < c * b
    · rw [if_pos h, made_sg]
      congr 1
      unfold sg
      simp only [Bool.false_eq_true, if_false, if_true, Int.neg_mul]
      omega
    · rw [if_neg h, made_sg]
      congr 1
      unfold sg
      simp only [Bool.false_eq_true, if_false, if_true, Int.neg_mul]
      omega
  · rw [if_pos rfl, made_sg]
    congr 1
    unfold sg
    simp only [if_true, Int.neg_mul]
    omega
theorem sg_not (s : Bool) (c : Nat) : sg (!s && decide (0 < c)) c = - sg s c := by
  unfold sg
  rcases Nat.eq_zero_or_pos c with h | h
  · subst h; simp
  · cases s <;> simp [h]
theorem rep_add {x y : F} {z z' : Int} {d d' : Nat} (h : Rep x z d) (k : Rep y z' d') : opF sumN x y = madeZ (z * d' + z' * d) (d * d') := by
  obtain ⟨hd, s, a, b, rfl, hk, h1⟩ := h
  obtain ⟨hd', s', a', b', rfl, hk', h2⟩ := k
  rw [opF_fr hk hk', sumN_sg]
  refine madeZ_cong (Nat.mul_pos hk.pos hk'.pos) (Nat.mul_pos hd hd') ?_
  push_cast
  grind
theorem rep_sub {x y : F} {z z' : Int} {d d' : Nat} (h : Rep x z d) (k : Rep y z' d') : opF subN x y = madeZ (z * d' - z' * d) (d * d') := by
  obtain ⟨hd, s, a, b, rfl, hk, h1⟩ := h
  obtain ⟨hd', s', a', b', rfl, hk', h2⟩ := k
  rw [opF_fr hk hk']
  unfold subN
  rw [sumN_sg, sg_not]
  refine madeZ_cong (Nat.mul_pos hk.pos hk'.pos) (Nat.mul_pos hd hd') ?_
  push_cast
  grind
theorem sg_mul (s t : Bool) (a c : Nat) : sg (!(s == t)) (a * c) = sg s a * sg t c := by
  unfold sg
  cases s <;> cases t <;> simp [Int.neg_mul, Int.mul_neg]
theorem rep_mul {x y : F} {z z' : Int} {d d' : Nat} (h : Rep x z d) (k : Rep y z' d') : opF mulN x y = madeZ (z * z') (d * d') := by
  obtain ⟨hd, s, a, b, rfl, hk, h1⟩ := h
  obtain ⟨hd', s', a', b', rfl, hk', h2⟩ := k
  rw [opF_fr hk hk']
  unfold mulN
  rw [made_sg, sg_mul]
  refine madeZ_cong (Nat.mul_pos hk.pos hk'.pos) (Nat.mul_pos hd hd') ?_
  push_cast
  grind
theorem ordN_sg (n1 n2 : Bool) (a b c d : Nat) (hb : 0 < b) (hd : 0 < d) (h1 : a = 0 → n1 = false) (h2 : c = 0 → n2 = false) : ordN n1 a b n2 c d = if sg n1 a * d < sg n2 c * b then -1 else if sg n1 a * d = sg n2 c * b then 0 else 1 := by
  have e1 : ((a * d : Nat) : Int) = (a : Int) * d := by push_cast; rfl
  have e2 : ((c * b : Nat) : Int) = (c : Int) * b := by push_cast; rfl
  unfold ordN sg
  cases n1 <;> cases n2
  · simp only [if_true, Bool.false_eq_true, if_false, ← e1, ← e2, Int.ofNat_lt, Int.natCast_inj]
  · have hc : 0 < c := by
      rcases Nat.eq_zero_or_pos c with h | h
      · exact absurd (h2 h) (by simp)
      · exact h
    have := Nat.mul_pos hc hb
    simp only [Bool.false_eq_true, if_false, if_true, Int.neg_mul, ← e1, ← e2]
    rw [if_neg (by omega), if_neg (by omega)]
  · have hc : 0 < a := by
      rcases Nat.eq_zero_or_pos a with h | h
      · exact absurd (h1 h) (by simp)
      · exact h
    have := Nat.mul_pos hc hd
    simp only [Bool.false_eq_true, if_false, if_true, Int.neg_mul, ← e1, ← e2]
    rw [if_neg (by simp), if_pos (by omega)]
  · simp only [if_true, Int.neg_mul, ← e1, ← e2]
    by_cases g1 : a * d < c * b
    · rw [if_pos g1, if_neg (by omega), if_neg (by omega)]; rfl
    · rw [if_neg g1]
      by_cases g2 : a * d = c * b
      · rw [if_pos g2, if_neg (by omega), if_pos (by omega)]; rfl
      · rw [if_neg g2, if_pos (by omega)]
theorem rep_cmp {x y : F} {z z' : Int} {d d' : Nat} (h : Rep x z d) (k : Rep y z' d') : cmpF x y = (if z * d' < z' * d then -1 else if z * d' = z' * d then 0 else 1, 0) := by
  obtain ⟨hd, s, a, b, rfl, hk, h1⟩ := h
  obtain ⟨hd', s', a', b', rfl, hk', h2⟩ := k
  rw [cmpF_yes ⟨validF_fr.2 hk, validF_fr.2 hk'⟩]
  show (ordN s (val (limbs a)) (val (limbs b)) s' (val (limbs a')) (val (limbs b')), (0 : Int)) = _
  rw [val_limbs, val_limbs, val_limbs, val_limbs, ordN_sg _ _ _ _ _ _ hk.pos hk'.pos hk.sign hk'.sign]
  have hb : (0 : Int) < b := by have := hk.pos; omega
  have hb' : (0 : Int) < b' := by have := hk'.pos; omega
  have hP : (0 : Int) < (d : Int) * d' := Int.mul_pos (by omega) (by omega)
  have hQ : (0 : Int) < (b : Int) * b' := Int.mul_pos hb hb'
  have e : (sg s a * b' - sg s' a' * b) * (d * d') = (z * d' - z' * d) * (b * b') := by grind
  have l1 : (sg s a * b' < sg s' a' * b ↔ z * d' < z' * d) := by
    constructor
    · intro h
      have : (sg s a * b' - sg s' a' * b) * (d * d') < 0 := Int.mul_neg_of_neg_of_pos (by omega) hP
      rw [e] at this
      rcases Int.lt_or_le (z * d') (z' * d) with g | g
      · exact g
      · have : 0 ≤ (z * d' - z' * d) * (b * b') := Int.mul_nonneg (by omega) (by omega)
        omega
    · intro h
      have : (z * d' - z' * d) * (b * b') < 0 := Int.mul_neg_of_neg_of_pos (by omega) hQ
      rw [← e] at this
      rcases Int.lt_or_le (sg s a * b') (sg s' a' * b) with g | g
      · exact g
      · have : 0 ≤ (sg s a * b' - sg s' a' * b) * (d * d') := Int.mul_nonneg (by omega) (by omega)
        omega
  have l2 : (sg s a * b' = sg s' a' * b ↔ z * d' = z' * d) := by
    constructor
    · intro h
      have : (z * d' - z' * d) * (b * b') = 0 := by rw [← e, h]; simp
      rcases Int.mul_eq_zero.1 this with g | g <;> omega
    · intro h
      have : (sg s a * b' - sg s' a' * b) * (d * d') = 0 := by rw [e, h]; simp
      rcases Int.mul_eq_zero.1 this with g | g <;> omega
  simp only [l1, l2]
end Go.Proofs.Ytppehiajocgiiaa
