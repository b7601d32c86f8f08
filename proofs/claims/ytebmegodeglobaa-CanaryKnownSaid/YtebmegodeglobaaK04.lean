/- Plain arithmetic of long division, limb by limb: the guess, the subtraction of its multiple, the step back, the quotient limb.
   Walks: divide. -/
import Derived.Test.YtebmegodeglobaaK03
import Derived.Test.YtebmegodeglobaaK02
import Derived.Deep.RegionWith
import Derived.Lib.ItoaNum
set_option linter.unusedVariables false
namespace Go.Proofs.Ytebmegodeglobaa

section
variable {top next head u2 p xl vl : Nat}

/-- The dividend's front and the divisor, by their leading limbs. -/
structure Lead (top next head u2 p xl vl X V : Nat) : Prop where
  x : X = (head * 4294967296 + u2) * p + xl
  v : V = (top * 4294967296 + next) * p + vl
  xlow : xl < p
  vlow : vl < p
  hu : u2 < 4294967296
  hn : next < 4294967296
  ht : 2147483648 ≤ top
  ht2 : top < 4294967296
  lt : X < V * 4294967296

theorem Lead.vpos {X V : Nat} (h : Lead top next head u2 p xl vl X V) : 0 < V := by
  have := h.lt; omega
theorem Lead.ppos {X V : Nat} (h : Lead top next head u2 p xl vl X V) : 0 < p := by
  have := h.xlow; omega
theorem Lead.qlt {X V : Nat} (h : Lead top next head u2 p xl vl X V) : X / V < 4294967296 := by
  rw [Nat.div_lt_iff_lt_mul h.vpos, Nat.mul_comm]; exact h.lt
theorem Lead.xlt {X V : Nat} (h : Lead top next head u2 p xl vl X V) : X < (head * 4294967296 + u2 + 1) * p := by
  have := h.x; have := h.xlow; rw [Nat.add_mul _ 1]; omega
theorem Lead.vge {X V : Nat} (h : Lead top next head u2 p xl vl X V) : (top * 4294967296 + next) * p ≤ V := by
  have := h.v; omega
theorem Lead.vlt {X V : Nat} (h : Lead top next head u2 p xl vl X V) : V < (top * 4294967296 + next + 1) * p := by
  have := h.v; have := h.vlow; rw [Nat.add_mul _ 1]; omega
/-- The first guess is not too low. -/
theorem Lead.first {X V : Nat} (h : Lead top next head u2 p xl vl X V) : X / V ≤ head / top := by
  have ht := h.ht
  have hp := h.ppos
  rcases Nat.lt_or_ge (head / top) (X / V) with hlt | hge
  · exfalso
    have h1 : head < (X / V) * top := by
      have := Nat.lt_mul_of_div_lt hlt (by omega)
      exact this
    have h2 : (X / V) * V ≤ X := Nat.div_mul_le_self X V
    have h3 := Nat.mul_le_mul_left (X / V) h.vge
    have h4 := h.xlt
    have h5 : (head + 1) * 4294967296 * p ≤ (X / V) * top * 4294967296 * p := Nat.mul_le_mul_right _ (Nat.mul_le_mul_right _ h1)
    have h6 : (X / V) * top * 4294967296 * p ≤ (X / V) * ((top * 4294967296 + next) * p) := by
      rw [Nat.mul_assoc (X / V) top, Nat.mul_assoc (X / V)]
      exact Nat.mul_le_mul_left _ (Nat.mul_le_mul_right _ (by omega))
    have h7 : (head * 4294967296 + u2 + 1) * p ≤ (head + 1) * 4294967296 * p := Nat.mul_le_mul_right _ (by have := h.hu; omega)
    omega
  · exact hge
/-- The first guess is at most the base and one. -/
theorem Lead.first_le {X V : Nat} (h : Lead top next head u2 p xl vl X V) : head / top ≤ 4294967297 := by
  have hp := h.ppos
  have ht := h.ht
  have h1 : (head * 4294967296) * p < ((top + 1) * 4294967296) * 4294967296 * p := by
    have a1 : (head * 4294967296) * p ≤ X := by rw [h.x, Nat.add_mul]; omega
    have a2 := h.lt
    have a3 : V < (top + 1) * 4294967296 * p := by
      refine Nat.lt_of_lt_of_le h.vlt (Nat.mul_le_mul_right _ ?_)
      have := h.hn; omega
    have a4 : V * 4294967296 < ((top + 1) * 4294967296 * p) * 4294967296 := Nat.mul_lt_mul_of_pos_right a3 (by omega)
    have a5 : ((top + 1) * 4294967296 * p) * 4294967296 = ((top + 1) * 4294967296) * 4294967296 * p := by grind
    omega
  have h2 : head * 4294967296 < ((top + 1) * 4294967296) * 4294967296 := Nat.lt_of_mul_lt_mul_right h1
  have h3 : head < (top + 1) * 4294967296 := by omega
  have h4 : head < 4294967298 * top := by omega
  have := (Nat.div_lt_iff_lt_mul (x := head) (y := 4294967298) (k := top) (by omega)).2 h4
  omega
/-- A guess that the test refuses is too high. -/
theorem Lead.down {X V g r : Nat} (h : Lead top next head u2 p xl vl X V) (hg : g * top + r = head) (hq : X / V ≤ g)
    (hc : 4294967295 < g ∨ r * 4294967296 + u2 < g * next) : 1 ≤ g ∧ X / V ≤ g - 1 := by
  rcases hc with hc | hc
  · have := h.qlt; omega
  · have hp := h.ppos
    rcases Nat.lt_or_ge (X / V) g with hlt | hge
    · exact ⟨Nat.lt_of_le_of_lt (Nat.zero_le _) hlt, Nat.le_sub_one_of_lt hlt⟩
    · exfalso
      have e : X / V = g := by omega
      have h2 : (X / V) * V ≤ X := Nat.div_mul_le_self X V
      rw [e] at h2
      have h3 := Nat.mul_le_mul_left g h.vge
      have h4 := h.xlt
      have h5 : g * ((top * 4294967296 + next) * p) < (head * 4294967296 + u2 + 1) * p := by omega
      rw [← Nat.mul_assoc] at h5
      have h6 := Nat.lt_of_mul_lt_mul_right h5
      have h7 : g * (top * 4294967296 + next) = g * top * 4294967296 + g * next := by grind
      have h8 : head * 4294967296 = g * top * 4294967296 + r * 4294967296 := by rw [← hg]; grind
      omega
theorem Lead.up_aux {X V g r : Nat} (h : Lead top next head u2 p xl vl X V) (hg : g * top + r = head) (hb : g ≤ 4294967296)
    (hc : g * next ≤ r * 4294967296 + u2) : g ≤ X / V + 1 := by
  have hp := h.ppos
  have h7 : g * (top * 4294967296 + next) = g * top * 4294967296 + g * next := by grind
  have h8 : head * 4294967296 = g * top * 4294967296 + r * 4294967296 := by rw [← hg]; grind
  have h9 : g * (top * 4294967296 + next) ≤ head * 4294967296 + u2 := by omega
  have h10 : g * (top * 4294967296 + next) * p ≤ X := by
    have := Nat.mul_le_mul_right p h9
    rw [h.x]; omega
  have h11 : g * V ≤ g * ((top * 4294967296 + next + 1) * p) := Nat.mul_le_mul_left _ (Nat.le_of_lt h.vlt)
  have h12 : g * ((top * 4294967296 + next + 1) * p) = g * (top * 4294967296 + next) * p + g * p := by grind
  have h13 : g * p ≤ 4294967296 * p := Nat.mul_le_mul_right _ hb
  have h14 : 4294967296 * p < V := by
    refine Nat.lt_of_lt_of_le ?_ h.vge
    refine Nat.mul_lt_mul_of_pos_right ?_ hp
    have := h.ht; omega
  have h15 : g * V < X + V := by omega
  rcases Nat.lt_or_ge (X / V + 1) g with hlt | hge
  · exfalso
    have h16 : X < (X / V + 1) * V := by
      have := Nat.lt_div_mul_add (a := X) (b := V) h.vpos
      rw [Nat.add_mul]; omega
    have h17 : (X / V + 2) * V ≤ g * V := Nat.mul_le_mul_right _ (by omega)
    have h18 : (X / V + 2) * V = (X / V + 1) * V + V := by grind
    omega
  · exact hge
/-- Where the loop ends by its test. -/
theorem Lead.up {X V g r : Nat} (h : Lead top next head u2 p xl vl X V) (hg : g * top + r = head) (hb : g ≤ 4294967295)
    (hc : g * next ≤ r * 4294967296 + u2) : g ≤ X / V + 1 := h.up_aux hg (by omega) hc
/-- Where the loop ends because the rest is as great as the base. -/
theorem Lead.up_break {X V g r : Nat} (h : Lead top next head u2 p xl vl X V) (hg : g * top + r = head) (hb : g ≤ 4294967296)
    (hr : 4294967296 ≤ r) : g ≤ X / V + 1 := by
  refine h.up_aux hg hb ?_
  have h1 : g * next ≤ 4294967296 * 4294967296 := Nat.mul_le_mul hb (by have := h.hn; omega)
  have h2 : 4294967296 * 4294967296 ≤ r * 4294967296 := Nat.mul_le_mul_right _ hr
  omega
end

theorem take_set {l : List Nat} {j k : Nat} (x : Nat) (h : j ≤ k) : (l.set k x).take j = l.take j := by
  apply List.ext_getElem?
  intro i
  rw [List.getElem?_take, List.getElem?_take]
  split
  · rw [List.getElem?_set_ne (by omega)]
  · rfl
theorem drop_set {l : List Nat} {j k : Nat} (x : Nat) (h : k < j) : (l.set k x).drop j = l.drop j := by
  apply List.ext_getElem?
  intro i
  rw [List.getElem?_drop, List.getElem?_drop, List.getElem?_set_ne (by omega)]
theorem lim_of_drop {l m : List Nat} {j : Nat} (h : l.drop j = m.drop j) {i : Nat} (hi : j ≤ i) : lim l i = lim m i := by
  have := congrArg (fun t => t[i - j]?) h
  simp only [List.getElem?_drop] at this
  rw [show j + (i - j) = i from by omega] at this
  unfold lim; rw [this]

theorem drop_succ_eq {l m : List Nat} {k : Nat} (h : l.drop k = m.drop k) : l.drop (k + 1) = m.drop (k + 1) := by
  rw [← List.drop_drop, ← List.drop_drop, h]

/-- After i steps of subtracting g times v from u at place j: carried c, borrowed b. -/
def MsRel (u0 u v : List Nat) (j i g c b : Nat) : Prop :=
  u.length = u0.length ∧ Lb u ∧ b ≤ 1 ∧ c * 4294967296 ^ i ≤ g * val (v.take i) ∧
  val u + g * val (v.take i) * 4294967296 ^ j = val u0 + (c + b) * 4294967296 ^ (j + i) ∧
  u.take j = u0.take j ∧ u.drop (j + i) = u0.drop (j + i)
theorem MsRel.start {u0 v : List Nat} {j g : Nat} (hu : Lb u0) : MsRel u0 u0 v j 0 g 0 0 :=
  ⟨rfl, hu, by omega, by simp, by simp [val], rfl, rfl⟩
theorem MsRel.carry {u0 u v : List Nat} {j i g c b : Nat} (h : MsRel u0 u v j i g c b) (hv : Lb v) (hg : g ≤ 4294967296) : c < 4294967296 := by
  have h1 := h.2.2.2.1
  have h2 : val (v.take i) < 4294967296 ^ i := by
    rcases Nat.lt_or_ge i v.length with hl | hl
    · have := val_lt (hv.take i); rwa [List.length_take, Nat.min_eq_left (by omega)] at this
    · rw [val_take_ge hl]
      exact Nat.lt_of_lt_of_le (val_lt hv) (Nat.pow_le_pow_right (by omega) hl)
  have h3 : g * val (v.take i) ≤ 4294967296 * val (v.take i) := Nat.mul_le_mul_right _ hg
  have h4 : c * 4294967296 ^ i < 4294967296 * 4294967296 ^ i := by omega
  exact Nat.lt_of_mul_lt_mul_right h4
/-- What is taken off in a step, and what is carried. -/
def msLo (c g v : Nat) : Nat := (c + g * v) % 4294967296
def msHi (c g v : Nat) : Nat := (c + g * v) / 4294967296
theorem ms_eq (c g v : Nat) : msLo c g v + 4294967296 * msHi c g v = c + g * v := by unfold msLo msHi; omega
theorem msLo_lt (c g v : Nat) : msLo c g v < 4294967296 := Nat.mod_lt _ (by omega)
theorem MsRel.step {u0 u v : List Nat} {j i g c b : Nat} (h : MsRel u0 u v j i g c b) (hi : i < v.length) (hj : j + i < u0.length) :
    MsRel u0 (u.set (j + i) (subLo (lim u (j + i)) (msLo c g (lim v i)) b)) v j (i + 1) g (msHi c g (lim v i)) (subHi (lim u (j + i)) (msLo c g (lim v i)) b) := by
  obtain ⟨h1, h2, h3, h4, h5, h6, h7⟩ := h
  have e0 := ms_eq c g (lim v i)
  have e1 := sub_eq (h2.getD (j + i)) (msLo_lt c g (lim v i)) h3
  have e2 := val_set (l := u) (k := j + i) (subLo (lim u (j + i)) (msLo c g (lim v i)) b) (by omega)
  have e3 := val_take_step v i
  refine ⟨by rw [List.length_set]; exact h1, h2.set _ (subLo_lt _ _ _), subHi_le _ _ _, ?_, ?_, by rw [take_set _ (by omega)]; exact h6, ?_⟩
  · rw [e3, Nat.pow_succ]
    have a1 : msHi c g (lim v i) * (4294967296 ^ i * 4294967296) = (4294967296 * msHi c g (lim v i)) * 4294967296 ^ i := by grind
    have a2 : (4294967296 * msHi c g (lim v i)) * 4294967296 ^ i ≤ (c + g * lim v i) * 4294967296 ^ i := Nat.mul_le_mul_right _ (by omega)
    have a3 : (c + g * lim v i) * 4294967296 ^ i = c * 4294967296 ^ i + g * (lim v i * 4294967296 ^ i) := by grind
    have a4 : g * (val (v.take i) + lim v i * 4294967296 ^ i) = g * val (v.take i) + g * (lim v i * 4294967296 ^ i) := by grind
    omega
  · rw [e3, ← Nat.add_assoc, Nat.pow_succ]
    have e6 : (4294967296 : Nat) ^ (j + i) = 4294967296 ^ j * 4294967296 ^ i := Nat.pow_add _ _ _
    generalize subLo (lim u (j + i)) (msLo c g (lim v i)) b = s at *
    generalize subHi (lim u (j + i)) (msLo c g (lim v i)) b = b' at *
    generalize msLo c g (lim v i) = lo at *
    generalize msHi c g (lim v i) = hi' at *
    generalize val (u.set (j + i) s) = w at *
    generalize lim u (j + i) = x at *
    generalize lim v i = y at *
    generalize val (v.take i) = z at *
    have a1 : g * (z + y * 4294967296 ^ i) * 4294967296 ^ j = g * z * 4294967296 ^ j + g * y * 4294967296 ^ (j + i) := by rw [e6]; grind
    rw [a1]
    generalize (4294967296 : Nat) ^ (j + i) = q at *
    generalize g * z * 4294967296 ^ j = m at *
    have a2 : s * q + lo * q + b * q = x * q + 4294967296 * b' * q := by
      have := congrArg (· * q) e1
      grind
    have a3 : lo * q + 4294967296 * hi' * q = c * q + g * y * q := by
      have := congrArg (· * q) e0
      grind
    have a4 : (hi' + b') * (q * 4294967296) = 4294967296 * hi' * q + 4294967296 * b' * q := by grind
    have a5 : (c + b) * q = c * q + b * q := by grind
    omega
  · rw [drop_set _ (by omega), ← Nat.add_assoc]
    exact drop_succ_eq h7

/-- The last step of the subtraction. -/
theorem MsRel.last {u0 u v : List Nat} {j g c b : Nat} (h : MsRel u0 u v j v.length g c b) (hc : c < 4294967296) (hj : j + v.length < u0.length) :
    (u.set (j + v.length) (subLo (lim u (j + v.length)) c b)).length = u0.length ∧ Lb (u.set (j + v.length) (subLo (lim u (j + v.length)) c b)) ∧
    val (u.set (j + v.length) (subLo (lim u (j + v.length)) c b)) + g * val v * 4294967296 ^ j = val u0 + subHi (lim u (j + v.length)) c b * 4294967296 ^ (j + v.length + 1) ∧
    (u.set (j + v.length) (subLo (lim u (j + v.length)) c b)).take j = u0.take j ∧
    (u.set (j + v.length) (subLo (lim u (j + v.length)) c b)).drop (j + v.length + 1) = u0.drop (j + v.length + 1) := by
  obtain ⟨h1, h2, h3, h4, h5, h6, h7⟩ := h
  have e1 := sub_eq (h2.getD (j + v.length)) hc h3
  have e2 := val_set (l := u) (k := j + v.length) (subLo (lim u (j + v.length)) c b) (by omega)
  refine ⟨by rw [List.length_set]; exact h1, h2.set _ (subLo_lt _ _ _), ?_, by rw [take_set _ (by omega)]; exact h6, ?_⟩
  · rw [List.take_length] at h5
    rw [Nat.pow_succ]
    generalize subLo (lim u (j + v.length)) c b = s at *
    generalize subHi (lim u (j + v.length)) c b = b' at *
    generalize lim u (j + v.length) = x at *
    generalize (4294967296 : Nat) ^ (j + v.length) = q at *
    have a2 : s * q + c * q + b * q = x * q + b' * (q * 4294967296) := by
      have := congrArg (· * q) e1
      grind
    have a5 : (c + b) * q = c * q + b * q := by grind
    omega
  · rw [drop_set _ (by omega)]
    exact drop_succ_eq h7

/-- After i steps of adding v back to u0 at place j, c being carried. -/
def AbRel (u0 u v : List Nat) (j i c : Nat) : Prop :=
  u.length = u0.length ∧ Lb u ∧ c ≤ 1 ∧ val u + c * 4294967296 ^ (j + i) = val u0 + val (v.take i) * 4294967296 ^ j ∧
  u.take j = u0.take j ∧ u.drop (j + i) = u0.drop (j + i)
theorem AbRel.start {u0 v : List Nat} {j : Nat} (hu : Lb u0) : AbRel u0 u0 v j 0 0 := ⟨rfl, hu, by omega, by simp [val], rfl, rfl⟩
theorem AbRel.step {u0 u v : List Nat} {j i c : Nat} (h : AbRel u0 u v j i c) (hv : Lb v) (hj : j + i < u0.length) :
    AbRel u0 (u.set (j + i) (addLo (lim u (j + i)) (lim v i) c)) v j (i + 1) (addHi (lim u (j + i)) (lim v i) c) := by
  obtain ⟨h1, h2, h3, h5, h6, h7⟩ := h
  have e1 := add_eq (lim u (j + i)) (lim v i) c
  have e2 := val_set (l := u) (k := j + i) (addLo (lim u (j + i)) (lim v i) c) (by omega)
  have e3 := val_take_step v i
  refine ⟨by rw [List.length_set]; exact h1, h2.set _ (addLo_lt _ _ _), addHi_le (h2.getD _) (hv.getD _) h3, ?_, by rw [take_set _ (by omega)]; exact h6, ?_⟩
  · rw [e3, ← Nat.add_assoc, Nat.pow_succ]
    have e6 : (4294967296 : Nat) ^ (j + i) = 4294967296 ^ j * 4294967296 ^ i := Nat.pow_add _ _ _
    generalize addLo (lim u (j + i)) (lim v i) c = s at *
    generalize addHi (lim u (j + i)) (lim v i) c = b' at *
    generalize val (u.set (j + i) s) = w at *
    generalize lim u (j + i) = x at *
    generalize lim v i = y at *
    generalize val (v.take i) = z at *
    have a1 : (z + y * 4294967296 ^ i) * 4294967296 ^ j = z * 4294967296 ^ j + y * 4294967296 ^ (j + i) := by rw [e6]; grind
    rw [a1]
    generalize (4294967296 : Nat) ^ (j + i) = q at *
    generalize z * 4294967296 ^ j = m at *
    have a2 : s * q + b' * (q * 4294967296) = x * q + y * q + c * q := by
      have := congrArg (· * q) e1
      grind
    omega
  · rw [drop_set _ (by omega), ← Nat.add_assoc]
    exact drop_succ_eq h7
theorem AbRel.last {u0 u v : List Nat} {j c : Nat} (h : AbRel u0 u v j v.length c) (hj : j + v.length < u0.length) :
    (u.set (j + v.length) (addLo (lim u (j + v.length)) 0 c)).length = u0.length ∧ Lb (u.set (j + v.length) (addLo (lim u (j + v.length)) 0 c)) ∧
    val (u.set (j + v.length) (addLo (lim u (j + v.length)) 0 c)) + addHi (lim u (j + v.length)) 0 c * 4294967296 ^ (j + v.length + 1) = val u0 + val v * 4294967296 ^ j ∧
    (u.set (j + v.length) (addLo (lim u (j + v.length)) 0 c)).take j = u0.take j ∧
    (u.set (j + v.length) (addLo (lim u (j + v.length)) 0 c)).drop (j + v.length + 1) = u0.drop (j + v.length + 1) := by
  obtain ⟨h1, h2, h3, h5, h6, h7⟩ := h
  have e1 := add_eq (lim u (j + v.length)) 0 c
  have e2 := val_set (l := u) (k := j + v.length) (addLo (lim u (j + v.length)) 0 c) (by omega)
  refine ⟨by rw [List.length_set]; exact h1, h2.set _ (addLo_lt _ _ _), ?_, by rw [take_set _ (by omega)]; exact h6, ?_⟩
  · rw [List.take_length] at h5
    rw [Nat.pow_succ]
    generalize addLo (lim u (j + v.length)) 0 c = s at *
    generalize addHi (lim u (j + v.length)) 0 c = b' at *
    generalize lim u (j + v.length) = x at *
    generalize (4294967296 : Nat) ^ (j + v.length) = q at *
    have a2 : s * q + b' * (q * 4294967296) = x * q + c * q := by
      have := congrArg (· * q) e1
      grind
    omega
  · rw [drop_set _ (by omega)]
    exact drop_succ_eq h7

/-- Before the round for place k - 1: what is still to divide, and the quotient so far. -/
def KInv (t : Nat) (v q u : List Nat) (k : Nat) : Prop :=
  Lb q ∧ (∀ i, i < k → lim q i = 0) ∧ Lb u ∧ val q * val v + val u = t ∧ val (u.drop k) < val v
/-- The value of the part of u that a round looks at. -/
theorem part_lt {u v : List Nat} {j : Nat} (hv : Lb v) (hj : j < u.length) (hu : Lb u) (h : val (u.drop (j + 1)) < val v) : val (u.drop j) < val v * 4294967296 ∧ val (u.drop j) < 4294967296 ^ (v.length + 1) := by
  have h1 := val_drop hj
  have h2 := hu.getD j
  have h3 := val_lt hv
  rw [Nat.pow_succ]
  constructor <;> omega
/-- Beyond the part that a round looks at there is nothing. -/
theorem part_zero {u : List Nat} {j m : Nat} (hu : Lb u) (h : val (u.drop j) < 4294967296 ^ m) : val (u.drop (j + m)) = 0 := by
  rcases Nat.lt_or_ge (j + m) u.length with hl | hl
  · have h1 := val_split (u.drop j) m (by rw [List.length_drop]; omega)
    rw [List.drop_drop] at h1
    rcases Nat.eq_zero_or_pos (val (u.drop (j + m))) with h0 | h0
    · exact h0
    · exfalso
      have := Nat.le_mul_of_pos_right (4294967296 ^ m) h0
      omega
  · rw [List.drop_of_length_le hl]; rfl
theorem val_same_front {l m : List Nat} {j : Nat} (hlen : l.length = m.length) (h : l.take j = m.take j) (hj : j ≤ l.length) :
    val l + 4294967296 ^ j * val (m.drop j) = val m + 4294967296 ^ j * val (l.drop j) := by
  have h1 := val_split l j hj
  have h2 := val_split m j (by omega)
  rw [h] at h1; omega
/-- A round whose guess was right. -/
theorem KInv.right {t j g : Nat} {v q u u' : List Nat} (h : KInv t v q u (j + 1)) (hv : Lb v) (hj : j + v.length < u.length) (hq : j < q.length)
    (hg : val (u.drop j) / val v ≤ g) (hlen : u'.length = u.length) (hu' : Lb u') (hval : val u' + g * val v * 4294967296 ^ j = val u) (hfr : u'.take j = u.take j) :
    KInv t v (q.set j g) u' j ∧ g < 4294967296 := by
  obtain ⟨h1, h2, h3, h4, h5⟩ := h
  have hvp : 0 < val v := by omega
  have hp := part_lt hv (by omega) h3 h5
  have hs := val_same_front hlen hfr (by omega)
  have hpp := pow_pos_ j
  have a1 : val (u'.drop j) + g * val v = val (u.drop j) := by
    have : 4294967296 ^ j * (val (u'.drop j) + g * val v) = 4294967296 ^ j * val (u.drop j) := by
      have : 4294967296 ^ j * (val (u'.drop j) + g * val v) = 4294967296 ^ j * val (u'.drop j) + g * val v * 4294967296 ^ j := by grind
      omega
    exact Nat.eq_of_mul_eq_mul_left hpp this
  have a2 : g ≤ val (u.drop j) / val v := (Nat.le_div_iff_mul_le hvp).2 (by omega)
  have a3 : g = val (u.drop j) / val v := by omega
  have a4 : val (u'.drop j) < val v := by
    have := Nat.lt_div_mul_add (a := val (u.drop j)) hvp
    rw [← a3] at this; omega
  have a5 : g < 4294967296 := by
    rw [a3, Nat.div_lt_iff_lt_mul hvp, Nat.mul_comm]; exact hp.1
  refine ⟨⟨h1.set _ a5, fun i hi => by rw [lim_set_ne (by omega)]; exact h2 i (by omega), hu', ?_, a4⟩, a5⟩
  have e2 := val_set (l := q) (k := j) g hq
  rw [h2 j (by omega)] at e2
  have : val (q.set j g) = val q + g * 4294967296 ^ j := by omega
  rw [this, Nat.add_mul]
  have : g * 4294967296 ^ j * val v = g * val v * 4294967296 ^ j := by grind
  omega
/-- Without a borrow the guess was right; with one it was one too high. -/
theorem borrow_one {j g b : Nat} {v u u' : List Nat} (hv : Lb v) (hu : Lb u) (hj : j + v.length < u.length) (h5 : val (u.drop (j + 1)) < val v)
    (hlen : u'.length = u.length) (hu' : Lb u') (hb : b = 1)
    (hval : val u' + g * val v * 4294967296 ^ j = val u + b * 4294967296 ^ (j + v.length + 1)) (hfr : u'.take j = u.take j) (hbk : u'.drop (j + v.length + 1) = u.drop (j + v.length + 1)) :
    val (u'.drop j) < 4294967296 ^ (v.length + 1) ∧ val (u'.drop j) + g * val v = val (u.drop j) + 4294967296 ^ (v.length + 1) ∧ val (u.drop j) < g * val v := by
  have hp := part_lt hv (by omega) hu h5
  have hz := part_zero hu hp.2
  have hs := val_same_front hlen hfr (by omega)
  have hpp := pow_pos_ j
  have a1 : val (u'.drop j) + g * val v = val (u.drop j) + 4294967296 ^ (v.length + 1) := by
    have e1 : 4294967296 ^ (j + v.length + 1) = 4294967296 ^ j * 4294967296 ^ (v.length + 1) := by rw [Nat.add_assoc, Nat.pow_add]
    have : 4294967296 ^ j * (val (u'.drop j) + g * val v) = 4294967296 ^ j * (val (u.drop j) + 4294967296 ^ (v.length + 1)) := by
      have e2 : 4294967296 ^ j * (val (u'.drop j) + g * val v) = 4294967296 ^ j * val (u'.drop j) + g * val v * 4294967296 ^ j := by grind
      rw [e2, Nat.mul_add, ← e1]
      rw [hb] at hval
      omega
    exact Nat.eq_of_mul_eq_mul_left hpp this
  have a2 : val (u'.drop j) < 4294967296 ^ (v.length + 1) := by
    have h1 := val_split (u'.drop j) (v.length + 1) (by rw [List.length_drop]; omega)
    rw [List.drop_drop, show j + (v.length + 1) = j + v.length + 1 from by omega, hbk, show j + v.length + 1 = j + (v.length + 1) from by omega, hz] at h1
    have h2 := val_lt ((hu'.drop j).take (v.length + 1))
    rw [List.length_take, List.length_drop, Nat.min_eq_left (by omega)] at h2
    omega
  exact ⟨a2, a1, by omega⟩
/-- A round whose guess was one too high, after v has been added back. -/
theorem KInv.back {t j g b o : Nat} {v q u u' u2 : List Nat} (h : KInv t v q u (j + 1)) (hv : Lb v) (hj : j + v.length < u.length) (hq : j < q.length)
    (hg : g ≤ val (u.drop j) / val v + 1) (hlen : u'.length = u.length) (hu' : Lb u') (hb : b = 1)
    (hval : val u' + g * val v * 4294967296 ^ j = val u + b * 4294967296 ^ (j + v.length + 1)) (hfr : u'.take j = u.take j) (hbk : u'.drop (j + v.length + 1) = u.drop (j + v.length + 1))
    (hlen2 : u2.length = u'.length) (hu2 : Lb u2) (ho : o ≤ 1) (hval2 : val u2 + o * 4294967296 ^ (j + v.length + 1) = val u' + val v * 4294967296 ^ j) (hfr2 : u2.take j = u'.take j)
    (hbk2 : u2.drop (j + v.length + 1) = u'.drop (j + v.length + 1)) :
    KInv t v (q.set j (g - 1)) u2 j ∧ 1 ≤ g ∧ g - 1 < 4294967296 := by
  have h3 := h.2.2.1
  have h5 := h.2.2.2.2
  have hvp : 0 < val v := by omega
  obtain ⟨b1, b2, b3⟩ := borrow_one hv h3 hj h5 hlen hu' hb hval hfr hbk
  have hg1 : 1 ≤ g := by
    rcases Nat.eq_zero_or_pos g with h0 | h0
    · subst h0; simp at b3
    · exact h0
  obtain ⟨m, rfl⟩ : ∃ m, g = m + 1 := ⟨g - 1, by omega⟩
  have c1 : (m + 1) * val v * 4294967296 ^ j = m * val v * 4294967296 ^ j + val v * 4294967296 ^ j := by grind
  have c2 : (m + 1) * val v = m * val v + val v := by grind
  -- the carry out of the step back cancels the borrow
  have c3 : o = 1 := by
    rcases Nat.eq_zero_or_pos o with h0 | h0
    · exfalso
      subst h0
      have hs := val_same_front hlen2 hfr2 (by omega)
      have hpp := pow_pos_ j
      have a1 : val (u2.drop j) = val (u'.drop j) + val v := by
        have : 4294967296 ^ j * val (u2.drop j) = 4294967296 ^ j * (val (u'.drop j) + val v) := by
          have e2 : 4294967296 ^ j * (val (u'.drop j) + val v) = 4294967296 ^ j * val (u'.drop j) + val v * 4294967296 ^ j := by grind
          rw [e2]; omega
        exact Nat.eq_of_mul_eq_mul_left hpp this
      have hp := part_lt hv (by omega) h3 h5
      have hz := part_zero h3 hp.2
      have a2 : val (u2.drop j) < 4294967296 ^ (v.length + 1) := by
        have h1 := val_split (u2.drop j) (v.length + 1) (by rw [List.length_drop]; omega)
        rw [List.drop_drop, show j + (v.length + 1) = j + v.length + 1 from by omega, hbk2, hbk, show j + v.length + 1 = j + (v.length + 1) from by omega, hz] at h1
        have h2 := val_lt ((hu2.drop j).take (v.length + 1))
        rw [List.length_take, List.length_drop, Nat.min_eq_left (by omega)] at h2
        omega
      have a3 : m * val v ≤ val (u.drop j) := by
        have : m ≤ val (u.drop j) / val v := by omega
        exact (Nat.le_div_iff_mul_le hvp).1 this
      omega
    · omega
  have hge : val (u.drop j) / val v ≤ m := by
    have : val (u.drop j) / val v < m + 1 := (Nat.div_lt_iff_lt_mul hvp).2 b3
    omega
  have := KInv.right (g := m) h hv hj hq hge (hlen2.trans hlen) hu2 (by rw [hb] at hval; rw [c3] at hval2; omega) (hfr2.trans hfr)
  exact ⟨this.1, hg1, this.2⟩
/-- A round without a borrow. -/
theorem KInv.plain {t j g b : Nat} {v q u u' : List Nat} (h : KInv t v q u (j + 1)) (hv : Lb v) (hj : j + v.length < u.length) (hq : j < q.length)
    (hg : val (u.drop j) / val v ≤ g) (hlen : u'.length = u.length) (hu' : Lb u') (hb : b = 0)
    (hval : val u' + g * val v * 4294967296 ^ j = val u + b * 4294967296 ^ (j + v.length + 1)) (hfr : u'.take j = u.take j) :
    KInv t v (q.set j g) u' j ∧ g < 4294967296 :=
  h.right hv hj hq hg hlen hu' (by rw [hb] at hval; omega) hfr
theorem KInv.done {t : Nat} {v q u : List Nat} (h : KInv t v q u 0) : val q = t / val v ∧ val u = t % val v := by
  obtain ⟨_, _, _, h4, h5⟩ := h
  rw [List.drop_zero] at h5
  have := (Nat.div_mod_unique (a := t) (b := val v) (c := val u) (d := val q) (by omega)).2 ⟨by rw [Nat.mul_comm]; omega, h5⟩
  exact ⟨this.1.symm, this.2.symm⟩

/-- The divisor, moved till its leading limb has its highest bit. -/
theorem norm_div {y s n : Nat} {v : List Nat} (hl : v.length = n + 1) (hlb : Lb v) (hv : val v = val (limbs y) * 2 ^ s) (hn : (limbs y).length = n) (hn1 : 1 ≤ n)
    (hs1 : 2147483648 ≤ lim (limbs y) (n - 1) * 2 ^ s) (hs2 : lim (limbs y) (n - 1) * 2 ^ s < 4294967296) (hs : s < 32) :
    (v.take n).length = n ∧ Lb (v.take n) ∧ val (v.take n) = y * 2 ^ s ∧ 2147483648 ≤ lim (v.take n) (n - 1) := by
  have hp := pow_pos_ (n - 1)
  have e0 := val_take_succ (l := limbs y) (k := n - 1) (by omega)
  rw [show n - 1 + 1 = n from by omega, ← hn, List.take_length, val_limbs, hn] at e0
  have e1 : val ((limbs y).take (n - 1)) < 4294967296 ^ (n - 1) := by
    have := val_lt ((limbs_lb y).take (n - 1)); rwa [List.length_take, Nat.min_eq_left (by omega)] at this
  have hB : 4294967296 ^ n = 4294967296 ^ (n - 1) * 4294967296 := by rw [← Nat.pow_succ, show (n - 1).succ = n from by omega]
  -- y * 2^s stays below the base to the n
  have h2 := two_pow_split hs
  have h3 : (lim (limbs y) (n - 1) + 1) * 2 ^ s ≤ 4294967296 := by
    have hq : lim (limbs y) (n - 1) < 2 ^ (32 - s) := by
      have : lim (limbs y) (n - 1) * 2 ^ s < 2 ^ (32 - s) * 2 ^ s := by rw [Nat.mul_comm (2 ^ (32 - s)), h2]; exact hs2
      exact Nat.lt_of_mul_lt_mul_right this
    have := Nat.mul_le_mul_right (2 ^ s) hq
    rw [Nat.mul_comm (2 ^ (32 - s)), h2] at this
    exact this
  have h4 : y * 2 ^ s < 4294967296 ^ n := by
    have a1 : y < (lim (limbs y) (n - 1) + 1) * 4294967296 ^ (n - 1) := by rw [Nat.add_mul]; omega
    have a2 := Nat.mul_lt_mul_of_pos_right a1 (show 0 < 2 ^ s from Nat.pow_pos (by omega))
    have a3 : (lim (limbs y) (n - 1) + 1) * 4294967296 ^ (n - 1) * 2 ^ s = (lim (limbs y) (n - 1) + 1) * 2 ^ s * 4294967296 ^ (n - 1) := by grind
    have a4 := Nat.mul_le_mul_right (4294967296 ^ (n - 1)) h3
    rw [hB, Nat.mul_comm (4294967296 ^ (n - 1))]
    omega
  rw [val_limbs] at hv
  have e2 := val_take_succ (l := v) (k := n) (by omega)
  rw [← hl, List.take_length] at e2
  have h5 : lim v n = 0 := by
    rcases Nat.eq_zero_or_pos (lim v n) with h0 | h0
    · exact h0
    · have := Nat.le_mul_of_pos_left (4294967296 ^ n) h0; omega
  have h6 : val (v.take n) = y * 2 ^ s := by rw [h5] at e2; omega
  have h7 : (v.take n).length = n := by rw [List.length_take]; omega
  refine ⟨h7, hlb.take n, h6, ?_⟩
  have e3 := val_take_succ (l := v.take n) (k := n - 1) (by omega)
  rw [show n - 1 + 1 = n from by omega, List.take_take, Nat.min_self, h6] at e3
  have e4 : val ((v.take n).take (n - 1)) < 4294967296 ^ (n - 1) := by
    have := val_lt ((hlb.take n).take (n - 1)); rwa [List.length_take, h7, Nat.min_eq_left (by omega)] at this
  have h8 : 2147483648 * 4294967296 ^ (n - 1) ≤ y * 2 ^ s := by
    have a1 : lim (limbs y) (n - 1) * 4294967296 ^ (n - 1) ≤ y := by omega
    have a2 := Nat.mul_le_mul_right (2 ^ s) a1
    have a3 : lim (limbs y) (n - 1) * 4294967296 ^ (n - 1) * 2 ^ s = lim (limbs y) (n - 1) * 2 ^ s * 4294967296 ^ (n - 1) := by grind
    have a4 := Nat.mul_le_mul_right (4294967296 ^ (n - 1)) hs1
    omega
  have h9 : 2147483648 * 4294967296 ^ (n - 1) < (lim (v.take n) (n - 1) + 1) * 4294967296 ^ (n - 1) := by rw [Nat.add_mul]; omega
  have := Nat.lt_of_mul_lt_mul_right h9
  omega
/-- The start of the division. -/
theorem KInv.start {x s n m la : Nat} {u v : List Nat} (hl : u.length = la + 1) (hlb : Lb u) (hu : val u = val (limbs x) * 2 ^ s) (hx : (limbs x).length = la) (hm : la + 1 = m + n) (hn1 : 1 ≤ n)
    (hvl : v.length = n) (htop : 2147483648 ≤ lim v (n - 1)) (hs : s < 32) : KInv (x * 2 ^ s) v (List.replicate m 0) u m := by
  rw [val_limbs] at hu
  refine ⟨Lb.replicate _ (by omega), fun i _ => lim_zeros _ _, hlb, by rw [val_zeros, hu]; omega, ?_⟩
  have hs31 : 2 ^ s ≤ 2147483648 := by
    have := Nat.pow_le_pow_right (n := 2) (by omega) (show s ≤ 31 by omega); omega
  have e1 := val_split u la (by omega)
  have e2 := val_drop (l := u) (k := la) (by omega)
  rw [List.drop_of_length_le (show u.length ≤ la + 1 by omega), show val [] = 0 from rfl, Nat.mul_zero, Nat.add_zero] at e2
  have hx2 := lt_limbs x
  rw [hx] at hx2
  have h1 : lim u la < 2 ^ s := by
    have a1 : lim u la * 4294967296 ^ la ≤ val u := by rw [e1, e2, Nat.mul_comm]; omega
    have a2 : x * 2 ^ s < 4294967296 ^ la * 2 ^ s := Nat.mul_lt_mul_of_pos_right hx2 (Nat.pow_pos (by omega))
    rw [Nat.mul_comm (4294967296 ^ la)] at a2
    exact Nat.lt_of_mul_lt_mul_right (Nat.lt_of_le_of_lt a1 (by omega))
  have e3 := val_split (u.drop m) (n - 1) (by rw [List.length_drop]; omega)
  rw [List.drop_drop, show m + (n - 1) = la from by omega, e2] at e3
  have e4 : val ((u.drop m).take (n - 1)) < 4294967296 ^ (n - 1) := by
    have := val_lt ((hlb.drop m).take (n - 1)); rwa [List.length_take, List.length_drop, Nat.min_eq_left (by omega)] at this
  have e5 := val_split v (n - 1) (by omega)
  have e6 := val_drop (l := v) (k := n - 1) (by omega)
  have h2 : 4294967296 ^ (n - 1) * (lim u la + 1) ≤ 4294967296 ^ (n - 1) * val (v.drop (n - 1)) := Nat.mul_le_mul_left _ (by omega)
  rw [Nat.mul_add] at h2
  omega
/-- What a round looks at, by leading limbs. -/
theorem KInv.lead {t j n : Nat} {v q u : List Nat} (h : KInv t v q u (j + 1)) (hv : Lb v) (hvl : v.length = n) (hn : 2 ≤ n) (htop : 2147483648 ≤ lim v (n - 1)) (hj : j + n < u.length) :
    Lead (lim v (n - 1)) (lim v (n - 2)) (lim u (j + n) * 4294967296 + lim u (j + n - 1)) (lim u (j + n - 2)) (4294967296 ^ (n - 2)) (val ((u.drop j).take (n - 2))) (val (v.take (n - 2))) (val (u.drop j)) (val v) := by
  have h3 := h.2.2.1
  have h5 := h.2.2.2.2
  have hp := part_lt hv (by omega) h3 h5
  have hz := part_zero h3 hp.2
  rw [hvl] at hz
  have ev1 := val_split v (n - 2) (by omega)
  have ev2 := val_drop (l := v) (k := n - 2) (by omega)
  have ev3 := val_drop (l := v) (k := n - 1) (by omega)
  rw [show n - 2 + 1 = n - 1 from by omega] at ev2
  rw [show n - 1 + 1 = n from by omega, List.drop_of_length_le (show v.length ≤ n by omega), show val [] = 0 from rfl, Nat.mul_zero, Nat.add_zero] at ev3
  have eu1 := val_split (u.drop j) (n - 2) (by rw [List.length_drop]; omega)
  rw [List.drop_drop] at eu1
  have eu2 := val_drop (l := u) (k := j + (n - 2)) (by omega)
  have eu3 := val_drop (l := u) (k := j + (n - 2) + 1) (by omega)
  have eu4 := val_drop (l := u) (k := j + (n - 2) + 1 + 1) (by omega)
  rw [show j + (n - 2) + 1 + 1 + 1 = j + (n + 1) from by omega, hz] at eu4
  rw [show j + (n - 2) + 1 + 1 = j + n from by omega] at eu3 eu4
  rw [show j + (n - 2) + 1 = j + n - 1 from by omega] at eu2 eu3
  rw [show j + (n - 2) = j + n - 2 from by omega] at eu2 eu1
  exact {
    x := by rw [eu1, eu2, eu3, eu4]; grind
    v := by rw [ev1, ev2, ev3]; grind
    xlow := by have := val_lt ((h3.drop j).take (n - 2)); rwa [List.length_take, List.length_drop, Nat.min_eq_left (by omega)] at this
    vlow := by have := val_lt (hv.take (n - 2)); rwa [List.length_take, Nat.min_eq_left (by omega)] at this
    hu := h3.getD _
    hn := hv.getD _
    ht := htop
    ht2 := hv.getD _
    lt := hp.1 }

/-- A limb of the remainder: two limbs, moved back. -/
def rsh (s a b : Nat) : Nat := a / 2 ^ s + (b % 2 ^ s) * 2 ^ (32 - s)
theorem rsh_or {s a b : Nat} (hs : s < 32) (ha : a < 4294967296) : (a / 2 ^ s) ||| (b * 4294967296 / 2 ^ s % 4294967296) = rsh s a b ∧ rsh s a b < 4294967296 := by
  have h1 := two_pow_split hs
  have hp : 0 < 2 ^ s := Nat.pow_pos (by omega)
  have e1 : b * 4294967296 / 2 ^ s = b * 2 ^ (32 - s) := by
    rw [← h1, Nat.mul_comm (2 ^ s), ← Nat.mul_assoc, Nat.mul_div_cancel _ hp]
  have e2 : b * 2 ^ (32 - s) % 4294967296 = (b % 2 ^ s) * 2 ^ (32 - s) := by
    rw [← h1, Nat.mul_mod_mul_right]
  have e3 : a / 2 ^ s < 2 ^ (32 - s) := by
    rw [Nat.div_lt_iff_lt_mul hp, Nat.mul_comm, h1]; exact ha
  constructor
  · unfold rsh
    rw [e1, e2, Nat.or_comm, Nat.mul_comm (b % 2 ^ s), ← Nat.two_pow_add_eq_or_of_lt e3, Nat.add_comm]
  · unfold rsh
    have e4 : (b % 2 ^ s + 1) * 2 ^ (32 - s) ≤ 2 ^ s * 2 ^ (32 - s) := Nat.mul_le_mul_right _ (Nat.mod_lt _ hp)
    rw [Nat.add_mul] at e4
    omega
/-- After i limbs of the remainder. -/
def RshRel (u r : List Nat) (s n i : Nat) : Prop :=
  r.length = n ∧ Lb r ∧ 2 ^ s * val r + lim u 0 % 2 ^ s = val (u.take i) + (lim u i % 2 ^ s) * 4294967296 ^ i ∧ ∀ j, i ≤ j → lim r j = 0
theorem RshRel.start (u : List Nat) (s n : Nat) : RshRel u (List.replicate n 0) s n 0 :=
  ⟨by simp, Lb.replicate _ (by omega), by simp [val, val_zeros], fun j _ => lim_zeros _ _⟩
theorem RshRel.step {u r : List Nat} {s n i : Nat} (h : RshRel u r s n i) (hu : Lb u) (hi : i < n) (hs : s < 32) :
    RshRel u (r.set i (rsh s (lim u i) (lim u (i + 1)))) s n (i + 1) := by
  obtain ⟨h1, h2, h3, h4⟩ := h
  have e1 := val_set (l := r) (k := i) (rsh s (lim u i) (lim u (i + 1))) (by omega)
  rw [h4 i (Nat.le_refl _)] at e1
  have hb := (rsh_or (b := lim u (i + 1)) hs (hu.getD i)).2
  refine ⟨by rw [List.length_set]; exact h1, h2.set _ hb, ?_, fun j hj => by rw [lim_set_ne (by omega)]; exact h4 j (by omega)⟩
  rw [val_take_step u i, Nat.pow_succ, show val (r.set i (rsh s (lim u i) (lim u (i + 1)))) = val r + rsh s (lim u i) (lim u (i + 1)) * 4294967296 ^ i from by omega]
  have h5 := two_pow_split hs
  have h6 := Nat.div_add_mod (lim u i) (2 ^ s)
  unfold rsh
  generalize lim u i / 2 ^ s = f at *
  generalize hem : lim u i % 2 ^ s = em at *
  generalize lim u (i + 1) % 2 ^ s = en at *
  generalize (4294967296 : Nat) ^ i = q at *
  have a1 : 2 ^ s * (val r + (f + en * 2 ^ (32 - s)) * q) = 2 ^ s * val r + 2 ^ s * f * q + en * (2 ^ s * 2 ^ (32 - s)) * q := by grind
  have a2 : en * (q * 4294967296) = en * 4294967296 * q := by grind
  have a3 : lim u i * q = 2 ^ s * f * q + em * q := by rw [← h6]; grind
  rw [a1, h5, a2, a3]
  omega
theorem RshRel.done {u r : List Nat} {s n z : Nat} (h : RshRel u r s n n) (hl : n < u.length) (hu : val u < 4294967296 ^ n) (hz : val u = z * 2 ^ s) : val r = z := by
  obtain ⟨h1, h2, h3, h4⟩ := h
  have hp : 0 < 2 ^ s := Nat.pow_pos (by omega)
  have e1 := val_split u n (by omega)
  have e2 := val_drop (l := u) (k := n) hl
  have e3 : lim u n = 0 := by
    rcases Nat.eq_zero_or_pos (lim u n) with h0 | h0
    · exact h0
    · have a1 : 1 ≤ val (u.drop n) := by omega
      have := Nat.le_mul_of_pos_right (4294967296 ^ n) a1
      omega
  have e4 : val (u.drop n) = 0 := by
    rcases Nat.eq_zero_or_pos (val (u.drop n)) with h0 | h0
    · exact h0
    · have := Nat.le_mul_of_pos_right (4294967296 ^ n) h0
      omega
  rw [e3, Nat.zero_mod, Nat.zero_mul, Nat.add_zero] at h3
  rw [e4, Nat.mul_zero, Nat.add_zero] at e1
  have h5 : 2 ^ s * val r + lim u 0 % 2 ^ s = z * 2 ^ s := by omega
  have h6 : lim u 0 % 2 ^ s < 2 ^ s := Nat.mod_lt _ hp
  have h7 := congrArg (· / 2 ^ s) h5
  simp only [Nat.mul_add_div hp, Nat.mul_div_cancel _ hp, Nat.div_eq_of_lt h6, Nat.add_zero] at h7
  exact h7
end Go.Proofs.Ytebmegodeglobaa

namespace Go.Proofs.Ytebmegodeglobaa
open Go.RowKit

/-- How far the leading limb of a divisor is moved. -/
def RetLz (w : World) (x : Nat) (e : Ending) (w' : World) : Prop :=
  ∃ s : Nat, e = .returned (.int .i64 (s : Int)) ∧ s < 32 ∧ 2147483648 ≤ x * 2 ^ s ∧ x * 2 ^ s < 4294967296 ∧ w = w'
theorem lz_c (x : Nat) (h0 : 0 < x) (h1 : x < 4294967296) (w : World) : Calls Try.prog 74 #[.int .u32 (x : Int)] w (RetLz w x) := by
  refine (Try.bits_LeadingZeros32 (x : Int) w (by omega) (by omega)).mono ?_
  rintro e w' ⟨rfl, rfl⟩
  have hb := Lib.bitLenAux_bounds 64 x (by omega) (by omega)
  rw [Int.toNat_natCast]
  change 1 ≤ Lib.bitLen x ∧ 2 ^ (Lib.bitLen x - 1) ≤ x ∧ x < 2 ^ Lib.bitLen x at hb
  generalize Lib.bitLen x = m at *
  obtain ⟨hb1, hb2, hb3⟩ := hb
  have hlb : m ≤ 32 := by
    rcases Nat.lt_or_ge 32 m with h | h
    · have := Nat.pow_le_pow_right (n := 2) (by omega) (show 32 ≤ m - 1 by omega)
      omega
    · exact h
  refine ⟨32 - m, ?_, by omega, ?_, ?_, rfl⟩
  · refine ret_int ?_
    omega
  · have e1 := Nat.mul_le_mul_right (2 ^ (32 - m)) hb2
    rw [← Nat.pow_add, show m - 1 + (32 - m) = 31 from by omega] at e1
    omega
  · have e1 := Nat.mul_lt_mul_of_pos_right hb3 (show 0 < 2 ^ (32 - m) from Nat.pow_pos (by omega))
    rw [← Nat.pow_add, show m + (32 - m) = 32 from by omega] at e1
    omega

/-- The results are a quotient and a remainder. -/
def RetDiv (w : World) (q r : Nat) (e : Ending) (w' : World) : Prop := ∃ v u, e = .returned (.tuple #[v, u]) ∧ Sl w' v (limbs q) ∧ Sl w' u (limbs r) ∧ Below w.heap.size w w'

set_option maxRecDepth 100000 in
set_option maxHeartbeats 1000000 in
theorem divide_less (w : World) (va vb : Value) (x y : Nat) (h : Sl w va (limbs x)) (k : Sl w vb (limbs y)) (hlt : x < y) (ha : (limbs x).length ≤ 1000000) :
    Calls Try.prog 57 #[va, vb] w (RetDiv w (x / y) (x % y)) := by
  have hs := Lib.hid h
  have ks := Lib.hid k
  clear h k
  rw [Nat.div_eq_of_lt hlt, Nat.mod_eq_of_lt hlt]
  go_enter Try.func57, Try.ntmps57
  go_wp2_with fail
  refine (compare_c _ _ _ _ _ hs.out ks.out).mono ?_
  rintro e w' ⟨r, rfl, hr, n, rfl⟩
  have hr' := hr.lt.2 hlt
  clear hr
  go_wp2_with fail
  refine (clone_c _ _ _ (hs.out.drewN n) ha).mono ?_
  rintro e w' ⟨v, rfl, hv, hb⟩
  have HV := Lib.hid hv
  clear hv
  go_wp2_with fail
  go_ret2
  exact ⟨_, _, rfl, by rw [limbs_zero]; exact Sl.nil _, HV.out, (below_drewN w n _).trans hb⟩

set_option maxRecDepth 100000 in
set_option maxHeartbeats 1000000 in
theorem divide_short (w : World) (va vb : Value) (x y : Nat) (h : Sl w va (limbs x)) (k : Sl w vb (limbs y)) (hge : y ≤ x) (hl : (limbs y).length = 1) (ha : (limbs x).length ≤ 1000000) :
    Calls Try.prog 57 #[va, vb] w (RetDiv w (x / y) (x % y)) := by
  have hy0 : 0 < y := by
    rcases Nat.eq_zero_or_pos y with h0 | h0
    · subst h0; rw [limbs_zero] at hl; simp at hl
    · exact h0
  have hy1 : y < 4294967296 := by have := lt_limbs y; rw [hl] at this; omega
  have e1 := limbs_small hy0 hy1
  rw [e1] at k
  have hm2 : x % y < 4294967296 := by have := Nat.mod_lt x hy0; omega
  generalize hm : x % y = m at *
  have HMQ := Lib.hid hm
  clear hm
  have hs := Lib.hid h
  have ks := Lib.hid k
  have e1' := Lib.hid e1
  obtain ⟨_, p, cap, rfl, k2, k3, k5, k6⟩ := k
  obtain ⟨b, off, rfl, hb, hc⟩ := k6 (by simp)
  have hc0 := hc 0 (by simp)
  simp only [Nat.add_zero, lim_cons_zero] at hc0
  simp only [List.length_cons, List.length_nil, Nat.zero_add] at *
  clear h e1 hc k6 k5
  go_enter Try.func57, Try.ntmps57
  go_wp2_with fail
  refine (compare_c _ _ _ _ _ hs.out ks.out).mono ?_
  rintro e w' ⟨r, rfl, hr, n, rfl⟩
  have hr' : 0 ≤ r := by
    rw [← e1'.out] at hr
    have := hr.lt; omega
  clear hr
  go_wp2_with fail
  have HC := short_c _ _ _ y (hs.out.drewN n) hy0 hy1 ha
  rw [val_limbs, HMQ.out] at HC
  refine HC.mono ?_
  clear HC
  rintro e w1 ⟨v, rfl, hv, hb1⟩
  have HV := Lib.hid hv
  clear hv
  go_wp2_with fail
  refine (from_c m (by omega) w1).mono ?_
  rintro e w2 ⟨u, rfl, hu, hb2⟩
  have HU := Lib.hid hu
  clear hu
  go_wp2_with fail
  go_ret2
  exact ⟨_, _, rfl, HV.out.after hb2, HU.out, ((below_drewN w n _).trans hb1).trans (hb2.mono hb1.size)⟩
end Go.Proofs.Ytebmegodeglobaa
