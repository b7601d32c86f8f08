/- Plain arithmetic behind the loops of plus, minus, times and short.
   Walks: math/bits Add32, Sub32, Div32.
   Walks: times, short.
   DERIVED: THE SHELF's CONTRACTS AT THIS DUMP, IN PLAIN WORDS (tools/lay-plain.mjs out of 'TryShelf.lean', which tools/lay-shelf.mjs wrote): THE SAME DECLARATIONS UNDER THE SAME NAMES: 'import', 'namespace', 'open', 'def', 'theorem' AND NOTHING ELSE: no command of the shelf's: FOR A HAND-IN. Each laying: the table of numbers ('.._ren') and one theorem, a field a fact of the dump's own or the kernel's comparison; each contract: ONE APPLICATION.
   Walks: shifted, slices.Clone, LeadingZeros32. -/
import Derived.Test.YtebmegodeglobaaK02
import Derived.Deep.QuietTactic
import Derived.BigQuiet
import Derived.Laws.BitsAllLaws
import Derived.Shelf.Small.Bits
import Derived.Shelf.Slices.Equal
import Derived.Ground.Names2Prog
import Derived.Shelf.Slices.Clone
import Derived.Shelf.Slices.Empties2
import Derived.Test.YtebmegodeglobaaProg
import Derived.BigRegion
import Derived.Deep.RegionLaw
import Derived.Maps.AppendAt
set_option linter.unusedVariables false
namespace Go.Proofs.Ytebmegodeglobaa

/-- What Add32, Sub32 and Div32 return, under names that the walk does not open. -/
def addLo (x y c : Nat) : Nat := (x + y + c) % 4294967296
def addHi (x y c : Nat) : Nat := (x + y + c) / 4294967296
def subLo (x y c : Nat) : Nat := (x + 4294967296 + 4294967296 - y - c) % 4294967296
def subHi (x y c : Nat) : Nat := if x < y + c then 1 else 0
def divQ (h l d : Nat) : Nat := (h * 4294967296 + l) / d
def divR (h l d : Nat) : Nat := (h * 4294967296 + l) % d

theorem addLo_lt (x y c : Nat) : addLo x y c < 4294967296 := Nat.mod_lt _ (by omega)
theorem subLo_lt (x y c : Nat) : subLo x y c < 4294967296 := Nat.mod_lt _ (by omega)
theorem subHi_le (x y c : Nat) : subHi x y c ≤ 1 := by unfold subHi; split <;> omega
theorem addHi_le {x y c : Nat} (hx : x < 4294967296) (hy : y < 4294967296) (hc : c ≤ 1) : addHi x y c ≤ 1 := by unfold addHi; omega
theorem add_eq (x y c : Nat) : addLo x y c + 4294967296 * addHi x y c = x + y + c := by unfold addLo addHi; omega
theorem sub_eq {x y c : Nat} (hx : x < 4294967296) (hy : y < 4294967296) (hc : c ≤ 1) : subLo x y c + y + c = x + 4294967296 * subHi x y c := by
  unfold subLo subHi; split <;> omega

/-- After i rounds of plus. -/
def PlusRel (a b o : List Nat) (i c : Nat) : Prop :=
  o.length = a.length + 1 ∧ Lb o ∧ c ≤ 1 ∧ val o + c * 4294967296 ^ i = val (a.take i) + val (b.take i) ∧ ∀ j, i ≤ j → lim o j = 0
theorem PlusRel.start (a b : List Nat) : PlusRel a b (List.replicate (a.length + 1) 0) 0 0 :=
  ⟨by simp, Lb.replicate _ (by omega), by omega, by simp [val, val_zeros], fun j _ => lim_zeros _ _⟩
theorem PlusRel.step {a b o : List Nat} {i c : Nat} (h : PlusRel a b o i c) (ha : Lb a) (hb : Lb b) (hi : i < a.length) :
    PlusRel a b (o.set i (addLo (lim a i) (lim b i) c)) (i + 1) (addHi (lim a i) (lim b i) c) := by
  obtain ⟨h1, h2, h3, h4, h5⟩ := h
  have e0 := add_eq (lim a i) (lim b i) c
  have e1 := val_set (l := o) (k := i) (addLo (lim a i) (lim b i) c) (by omega)
  have e2 := val_take_step a i
  have e3 := val_take_step b i
  have e4 := h5 i (Nat.le_refl _)
  refine ⟨by rw [List.length_set]; exact h1, h2.set _ (addLo_lt _ _ _), addHi_le (ha.getD i) (hb.getD i) h3, ?_, fun j hj => ?_⟩
  · rw [e4] at e1
    rw [e2, e3, Nat.pow_succ]
    generalize addLo (lim a i) (lim b i) c = lo at *
    generalize addHi (lim a i) (lim b i) c = hi at *
    grind
  · rw [lim_set_ne (by omega)]; exact h5 j (by omega)
theorem PlusRel.done {a b o : List Nat} {c : Nat} (h : PlusRel a b o a.length c) (hl : b.length ≤ a.length) :
    val (o.set a.length c) = val a + val b ∧ Lb (o.set a.length c) ∧ (o.set a.length c).length = a.length + 1 := by
  obtain ⟨h1, h2, h3, h4, h5⟩ := h
  have e1 := val_set (l := o) (k := a.length) c (by omega)
  rw [h5 _ (Nat.le_refl _)] at e1
  rw [List.take_length, val_take_ge hl] at h4
  exact ⟨by omega, h2.set _ (by omega), by rw [List.length_set]; exact h1⟩

/-- After i rounds of minus. -/
def MinusRel (a b o : List Nat) (i c : Nat) : Prop :=
  o.length = a.length ∧ Lb o ∧ c ≤ 1 ∧ val o + val (b.take i) = val (a.take i) + c * 4294967296 ^ i ∧ ∀ j, i ≤ j → lim o j = 0
theorem MinusRel.start (a b : List Nat) : MinusRel a b (List.replicate a.length 0) 0 0 :=
  ⟨by simp, Lb.replicate _ (by omega), by omega, by simp [val, val_zeros], fun j _ => lim_zeros _ _⟩
theorem MinusRel.step {a b o : List Nat} {i c : Nat} (h : MinusRel a b o i c) (ha : Lb a) (hb : Lb b) (hi : i < a.length) :
    MinusRel a b (o.set i (subLo (lim a i) (lim b i) c)) (i + 1) (subHi (lim a i) (lim b i) c) := by
  obtain ⟨h1, h2, h3, h4, h5⟩ := h
  have e0 := sub_eq (ha.getD i) (hb.getD i) h3
  have e1 := val_set (l := o) (k := i) (subLo (lim a i) (lim b i) c) (by omega)
  have e2 := val_take_step a i
  have e3 := val_take_step b i
  have e4 := h5 i (Nat.le_refl _)
  refine ⟨by rw [List.length_set]; exact h1, h2.set _ (subLo_lt _ _ _), subHi_le _ _ _, ?_, fun j hj => ?_⟩
  · rw [e4] at e1
    rw [e2, e3, Nat.pow_succ]
    generalize subLo (lim a i) (lim b i) c = lo at *
    generalize subHi (lim a i) (lim b i) c = hi at *
    grind
  · rw [lim_set_ne (by omega)]; exact h5 j (by omega)
theorem MinusRel.done {a b o : List Nat} {c : Nat} (h : MinusRel a b o a.length c) (hl : b.length ≤ a.length) (hle : val b ≤ val a) : val o = val a - val b := by
  obtain ⟨h1, h2, h3, h4, h5⟩ := h
  rw [List.take_length, val_take_ge hl] at h4
  have := val_lt h2
  rw [h1] at this
  rcases Nat.eq_zero_or_pos c with h0 | h0
  · subst h0; omega
  · have : c = 1 := by omega
    subst this; omega

/-- A step of times: what stays and what is carried. -/
def mulLo (c o x y : Nat) : Nat := (c + (o + x * y)) % 4294967296
def mulHi (c o x y : Nat) : Nat := (c + (o + x * y)) / 4294967296
theorem prod_le {x y : Nat} (hx : x < 4294967296) (hy : y < 4294967296) : x * y ≤ 18446744065119617025 := by
  have := Nat.mul_le_mul (Nat.le_of_lt_succ hx) (Nat.le_of_lt_succ hy); omega
theorem mulHi_lt {c o x y : Nat} (hc : c < 4294967296) (ho : o < 4294967296) (hx : x < 4294967296) (hy : y < 4294967296) : mulHi c o x y < 4294967296 := by
  have := prod_le hx hy; unfold mulHi; omega
theorem mulLo_lt (c o x y : Nat) : mulLo c o x y < 4294967296 := Nat.mod_lt _ (by omega)
theorem mul_eq (c o x y : Nat) : mulLo c o x y + 4294967296 * mulHi c o x y = c + (o + x * y) := by unfold mulLo mulHi; omega

/-- After i rows of times. -/
def TimesRel (a b o : List Nat) (i : Nat) : Prop :=
  o.length = a.length + b.length ∧ Lb o ∧ val o = val (a.take i) * val b ∧ ∀ j, i + b.length ≤ j → lim o j = 0
/-- In row i, after k steps, c being carried. -/
def TimesIn (a b o : List Nat) (i k c : Nat) : Prop :=
  o.length = a.length + b.length ∧ Lb o ∧ c < 4294967296 ∧ val o + c * 4294967296 ^ (i + k) = val (a.take i) * val b + lim a i * val (b.take k) * 4294967296 ^ i ∧ ∀ j, i + b.length ≤ j → lim o j = 0
theorem TimesRel.start (a b : List Nat) : TimesRel a b (List.replicate (a.length + b.length) 0) 0 :=
  ⟨by simp, Lb.replicate _ (by omega), by simp [val, val_zeros], fun j _ => lim_zeros _ _⟩
theorem TimesRel.row {a b o : List Nat} {i : Nat} (h : TimesRel a b o i) : TimesIn a b o i 0 0 := by
  obtain ⟨h1, h2, h3, h4⟩ := h
  exact ⟨h1, h2, by omega, by simp [val, h3], h4⟩
theorem TimesIn.step {a b o : List Nat} {i k c : Nat} (h : TimesIn a b o i k c) (ha : Lb a) (hb : Lb b) (hi : i < a.length) (hk : k < b.length) :
    TimesIn a b (o.set (i + k) (mulLo c (lim o (i + k)) (lim a i) (lim b k))) i (k + 1) (mulHi c (lim o (i + k)) (lim a i) (lim b k)) := by
  obtain ⟨h1, h2, h3, h4, h5⟩ := h
  have e0 := mul_eq c (lim o (i + k)) (lim a i) (lim b k)
  have e1 := val_set (l := o) (k := i + k) (mulLo c (lim o (i + k)) (lim a i) (lim b k)) (by omega)
  have e3 := val_take_step b k
  refine ⟨by rw [List.length_set]; exact h1, h2.set _ (mulLo_lt _ _ _ _), mulHi_lt h3 (h2.getD _) (ha.getD _) (hb.getD _), ?_, fun j hj => ?_⟩
  · rw [e3, ← Nat.add_assoc, Nat.pow_succ]
    have e6 : (4294967296 : Nat) ^ (i + k) = 4294967296 ^ i * 4294967296 ^ k := Nat.pow_add _ _ _
    generalize mulLo c (lim o (i + k)) (lim a i) (lim b k) = lo at *
    generalize mulHi c (lim o (i + k)) (lim a i) (lim b k) = hi at *
    generalize val (o.set (i + k) lo) = v' at *
    generalize val (a.take i) * val b = s at *
    generalize (4294967296 : Nat) ^ (i + k) = pik at *
    have e7 : lo * pik + hi * (pik * 4294967296) = c * pik + (lim o (i + k) * pik + lim a i * lim b k * pik) := by
      have := congrArg (· * pik) e0
      grind
    have e8 : lim a i * (val (b.take k) + lim b k * 4294967296 ^ k) * 4294967296 ^ i = lim a i * val (b.take k) * 4294967296 ^ i + lim a i * lim b k * pik := by
      rw [e6]; grind
    rw [e8]
    omega
  · rw [lim_set_ne (by omega)]; exact h5 j hj
theorem TimesIn.done {a b o : List Nat} {i c : Nat} (h : TimesIn a b o i b.length c) (hi : i < a.length) : TimesRel a b (o.set (i + b.length) c) (i + 1) := by
  obtain ⟨h1, h2, h3, h4, h5⟩ := h
  have e1 := val_set (l := o) (k := i + b.length) c (by omega)
  rw [h5 _ (Nat.le_refl _)] at e1
  rw [List.take_length] at h4
  refine ⟨by rw [List.length_set]; exact h1, h2.set _ h3, ?_, fun j hj => ?_⟩
  · rw [val_take_step a i]
    have e8 : (val (a.take i) + lim a i * 4294967296 ^ i) * val b = val (a.take i) * val b + lim a i * val b * 4294967296 ^ i := by grind
    omega
  · rw [lim_set_ne (by omega)]; exact h5 j (by omega)

/-- When short has still to do the i lowest limbs, r being left over. -/
def ShortRel (a q : List Nat) (d i r : Nat) : Prop :=
  q.length = a.length ∧ Lb q ∧ r < d ∧ val q * d + r * 4294967296 ^ i = val (a.drop i) * 4294967296 ^ i ∧ ∀ j, j < i → lim q j = 0
theorem ShortRel.start (a : List Nat) {d : Nat} (hd : 0 < d) : ShortRel a (List.replicate a.length 0) d a.length 0 :=
  ⟨by simp, Lb.replicate _ (by omega), hd, by simp [val, val_zeros], fun j _ => lim_zeros _ _⟩
theorem divQ_lt {h l d : Nat} (hh : h < d) (hl : l < 4294967296) : divQ h l d < 4294967296 := by
  unfold divQ
  rw [Nat.div_lt_iff_lt_mul (by omega)]
  have : (h + 1) * 4294967296 ≤ d * 4294967296 := Nat.mul_le_mul_right _ (by omega)
  rw [Nat.mul_comm 4294967296 d]; omega
theorem divR_lt {h l d : Nat} (hh : h < d) : divR h l d < d := Nat.mod_lt _ (by omega)
theorem div_eq (h l d : Nat) : divQ h l d * d + divR h l d = h * 4294967296 + l := by
  unfold divQ divR; rw [Nat.mul_comm]; exact Nat.div_add_mod _ _
theorem ShortRel.step {a q : List Nat} {d i r : Nat} (h : ShortRel a q d (i + 1) r) (ha : Lb a) (hi : i < a.length) :
    ShortRel a (q.set i (divQ r (lim a i) d)) d i (divR r (lim a i) d) := by
  obtain ⟨h1, h2, h3, h4, h5⟩ := h
  have e0 := div_eq r (lim a i) d
  have e1 := val_set (l := q) (k := i) (divQ r (lim a i) d) (by omega)
  rw [h5 i (by omega)] at e1
  have e2 := val_drop hi
  refine ⟨by rw [List.length_set]; exact h1, h2.set _ (divQ_lt h3 (ha.getD _)), divR_lt h3, ?_, fun j hj => ?_⟩
  · rw [e2, show val (q.set i (divQ r (lim a i) d)) = val q + divQ r (lim a i) d * 4294967296 ^ i from by omega]
    rw [Nat.pow_succ] at h4
    generalize divQ r (lim a i) d = x at *
    generalize divR r (lim a i) d = y at *
    generalize (4294967296 : Nat) ^ i = p at *
    have e7 : x * d * p + y * p = r * (p * 4294967296) + lim a i * p := by
      have := congrArg (· * p) e0
      grind
    have e8 : (val q + x * p) * d + y * p = val q * d + (x * d * p + y * p) := by grind
    have e9 : (lim a i + 4294967296 * val (a.drop (i + 1))) * p = lim a i * p + val (a.drop (i + 1)) * (p * 4294967296) := by grind
    rw [e8, e9]
    omega
  · rw [lim_set_ne (by omega)]; exact h5 j (by omega)
theorem ShortRel.done {a q : List Nat} {d r : Nat} (h : ShortRel a q d 0 r) : val q = val a / d ∧ r = val a % d := by
  obtain ⟨h1, h2, h3, h4, h5⟩ := h
  simp only [Nat.pow_zero, Nat.mul_one, List.drop_zero] at h4
  have e1 := Nat.div_mod_unique (a := val a) (b := d) (c := r) (d := val q) (by omega)
  have := e1.2 ⟨by rw [Nat.mul_comm]; omega, h3⟩
  exact ⟨this.1.symm, this.2.symm⟩

/-- A limb moved: what stays in its place, and what goes into the next one. -/
def shLo (s o x : Nat) : Nat := o + x * 2 ^ s % 4294967296
def shHi (s x : Nat) : Nat := x * 2 ^ s / 4294967296
/-- After i rounds of shifted. -/
def ShRel (a o : List Nat) (s i : Nat) : Prop :=
  o.length = a.length + 1 ∧ Lb o ∧ val o = val (a.take i) * 2 ^ s ∧ lim o i < 2 ^ s ∧ ∀ j, i < j → lim o j = 0
theorem ShRel.start (a : List Nat) (s : Nat) : ShRel a (List.replicate (a.length + 1) 0) s 0 :=
  ⟨by simp, Lb.replicate _ (by omega), by simp [val, val_zeros], by rw [lim_zeros]; exact Nat.pow_pos (by omega), fun j _ => lim_zeros _ _⟩
theorem two_pow_split {s : Nat} (hs : s < 32) : 2 ^ s * 2 ^ (32 - s) = 4294967296 := by rw [← Nat.pow_add, show s + (32 - s) = 32 from by omega]
theorem sh_or {s o x : Nat} (hs : s < 32) (ho : o < 2 ^ s) : o ||| (x * 2 ^ s % 4294967296) = shLo s o x ∧ shLo s o x < 4294967296 := by
  have h1 := two_pow_split hs
  have h2 : x * 2 ^ s % 4294967296 = 2 ^ s * (x % 2 ^ (32 - s)) := by
    rw [← h1, Nat.mul_comm x, Nat.mul_mod_mul_left]
  have h3 : x % 2 ^ (32 - s) < 2 ^ (32 - s) := Nat.mod_lt _ (Nat.pow_pos (by omega))
  constructor
  · unfold shLo
    rw [h2, Nat.or_comm, ← Nat.two_pow_add_eq_or_of_lt ho, Nat.add_comm]
  · unfold shLo
    rw [h2]
    have h4 : 2 ^ s * (x % 2 ^ (32 - s) + 1) ≤ 2 ^ s * 2 ^ (32 - s) := Nat.mul_le_mul_left _ h3
    rw [Nat.mul_add] at h4
    omega
theorem ShRel.step {a o : List Nat} {s i : Nat} (h : ShRel a o s i) (ha : Lb a) (hi : i < a.length) (hs : s < 32) :
    ShRel a ((o.set i (shLo s (lim o i) (lim a i))).set (i + 1) (shHi s (lim a i))) s (i + 1) := by
  obtain ⟨h1, h2, h3, h4, h5⟩ := h
  have hx := ha.getD i
  have b1 := (sh_or (x := lim a i) hs h4).2
  have hp : 0 < 2 ^ s := Nat.pow_pos (by omega)
  have b2 : shHi s (lim a i) < 2 ^ s := by
    unfold shHi
    rw [Nat.div_lt_iff_lt_mul (by omega), Nat.mul_comm]
    exact Nat.mul_lt_mul_of_pos_left hx hp
  have b3 : 2 ^ s ≤ 2147483648 := by
    have := Nat.pow_le_pow_right (n := 2) (by omega) (show s ≤ 31 by omega); omega
  have e1 := val_set (l := o) (k := i) (shLo s (lim o i) (lim a i)) (by omega)
  have e2 := val_set (l := o.set i (shLo s (lim o i) (lim a i))) (k := i + 1) (shHi s (lim a i)) (by rw [List.length_set]; omega)
  rw [lim_set_ne (by omega), h5 (i + 1) (by omega)] at e2
  refine ⟨by rw [List.length_set, List.length_set]; exact h1, (h2.set _ b1).set _ (by omega), ?_, ?_, fun j hj => ?_⟩
  · rw [val_take_step a i]
    have e3 := Nat.mod_add_div (lim a i * 2 ^ s) 4294967296
    unfold shLo shHi at *
    rw [Nat.pow_succ] at e2
    generalize lim a i * 2 ^ s / 4294967296 = hi' at *
    generalize lim a i * 2 ^ s % 4294967296 = lo at *
    have e4 : lo * 4294967296 ^ i + hi' * (4294967296 ^ i * 4294967296) = lim a i * 2 ^ s * 4294967296 ^ i := by
      rw [← e3]; grind
    have e5 : (val (a.take i) + lim a i * 4294967296 ^ i) * 2 ^ s = val (a.take i) * 2 ^ s + lim a i * 2 ^ s * 4294967296 ^ i := by grind
    have e6 : (lim o i + lo) * 4294967296 ^ i = lim o i * 4294967296 ^ i + lo * 4294967296 ^ i := by grind
    omega
  · rw [lim_set_eq (by rw [List.length_set]; omega)]; exact b2
  · rw [lim_set_ne (by omega), lim_set_ne (by omega)]; exact h5 j (by omega)
end Go.Proofs.Ytebmegodeglobaa

namespace Go.Proofs.Ytebmegodeglobaa
open Go.RowKit

theorem tb31 {x : Nat} (h : x < 4294967296) : x.testBit 31 = decide (2147483648 ≤ x) := by
  rw [Nat.testBit_eq_decide_div_mod_eq, Bool.eq_iff_iff]
  simp only [decide_eq_true_eq]
  omega
theorem sub_trick {x y c d : Nat} (hx : x < 4294967296) (hy : y < 4294967296) (hc : c ≤ 1) (hd : d = subLo x y c) :
    ((4294967295 ^^^ x) &&& y ||| (4294967295 ^^^ (x ^^^ y)) &&& d) / 2147483648 = subHi x y c := by
  have hd2 : d < 4294967296 := by rw [hd]; exact Nat.mod_lt _ (by omega)
  have hb : ((4294967295 ^^^ x) &&& y ||| (4294967295 ^^^ (x ^^^ y)) &&& d) < 4294967296 := by
    have h1 : (4294967295 ^^^ x) &&& y < 2 ^ 32 := Nat.and_lt_two_pow _ (by omega)
    have h2 : (4294967295 ^^^ (x ^^^ y)) &&& d < 2 ^ 32 := Nat.and_lt_two_pow _ (by omega)
    have := Nat.or_lt_two_pow h1 h2
    omega
  have ht := tb31 hb
  rw [Nat.testBit_or, Nat.testBit_and, Nat.testBit_and, Nat.testBit_xor, Nat.testBit_xor, Nat.testBit_xor, tb31 hx, tb31 hy, tb31 hd2, tb31 (by omega)] at ht
  generalize ((4294967295 ^^^ x) &&& y ||| (4294967295 ^^^ (x ^^^ y)) &&& d) = z at *
  unfold subHi subLo at *
  by_cases h1 : 2147483648 ≤ x <;> by_cases h2 : 2147483648 ≤ y <;> by_cases h3 : 2147483648 ≤ d <;> simp [h1, h2, h3] at ht <;> (split <;> omega)

set_option maxHeartbeats 400000 in
theorem add32_c (x y c : Nat) (hx : x < 4294967296) (hy : y < 4294967296) (hc : c ≤ 1) (w : World) :
    Calls Try.prog 77 #[.int .u32 (x : Int), .int .u32 (y : Int), .int .u32 (c : Int)] w
      fun e w' => e = .returned (.tuple #[.int .u32 (addLo x y c : Int), .int .u32 (addHi x y c : Int)]) ∧ w = w' := by
  have e1 : (addLo x y c : Int) = ((x : Int) + y + c) % 4294967296 := by unfold addLo; omega
  have e2 : (addHi x y c : Int) = ((x : Int) + y + c) / 4294967296 := by unfold addHi; omega
  rw [e1, e2]
  clear e1 e2
  go_enter Try.func77, Try.ntmps77
  go_wp2
  go_ret2
  exact ⟨rfl, rfl⟩

set_option maxHeartbeats 400000 in
theorem sub32_c (x y c : Nat) (hx : x < 4294967296) (hy : y < 4294967296) (hc : c ≤ 1) (w : World) :
    Calls Try.prog 76 #[.int .u32 (x : Int), .int .u32 (y : Int), .int .u32 (c : Int)] w
      fun e w' => e = .returned (.tuple #[.int .u32 (subLo x y c : Int), .int .u32 (subHi x y c : Int)]) ∧ w = w' := by
  have e1 : (subLo x y c : Int) = ((x : Int) - y - c) % 4294967296 := by unfold subLo; omega
  have hd2 : subLo x y c < 4294967296 := Nat.mod_lt _ (by omega)
  have hx1 : 4294967295 ^^^ x < 2 ^ 32 := Nat.xor_lt_two_pow (by omega) (by omega)
  have hx2 : x ^^^ y < 2 ^ 32 := Nat.xor_lt_two_pow (by omega) (by omega)
  have hx3 : 4294967295 ^^^ (x ^^^ y) < 2 ^ 32 := Nat.xor_lt_two_pow (by omega) (by omega)
  have hx4 : (4294967295 ^^^ x) &&& y < 2 ^ 32 := Nat.and_lt_two_pow _ (by omega)
  have hx5 : (4294967295 ^^^ (x ^^^ y)) &&& subLo x y c < 2 ^ 32 := Nat.and_lt_two_pow _ (by omega)
  have e2 : (subHi x y c : Int) = bits .or .u32 (bits .and .u32 (bits .xor .u32 IntKind.u32.max x) y) (bits .and .u32 (bits .xor .u32 IntKind.u32.max (bits .xor .u32 x y)) (((x : Int) - y - c) % 4294967296)) / 2147483648 := by
    have hm : IntKind.u32.max = ((4294967295 : Nat) : Int) := by decide
    rw [← e1, hm, u32_xor_nat _ _ (by omega) hx, u32_and_nat _ _ (by omega) hy, u32_xor_nat x y hx hy, u32_xor_nat _ _ (by omega) (by omega), u32_and_nat _ _ (by omega) hd2, u32_or_nat _ _ (by omega) (by omega), ← sub_trick hx hy hc rfl]
    rfl
  rw [e2, e1]
  clear e1 e2 hd2 hx1 hx2 hx3 hx4 hx5
  go_enter Try.func76, Try.ntmps76
  go_wp2
  go_ret2
  exact ⟨rfl, rfl⟩

set_option maxHeartbeats 400000 in
theorem div32_c (h l d : Nat) (hh : h < d) (hl : l < 4294967296) (hd : d < 4294967296) (w : World) :
    Calls Try.prog 82 #[.int .u32 (h : Int), .int .u32 (l : Int), .int .u32 (d : Int)] w
      fun e w' => e = .returned (.tuple #[.int .u32 (divQ h l d : Int), .int .u32 (divR h l d : Int)]) ∧ ∃ n, w' = w.drewN n := by
  have hd0 : ((d : Int) != 0) = true := by rw [bne_iff_ne]; omega
  have hdh : decide ((d : Int) ≤ h) = false := by simp; omega
  have hd1 : 1 ≤ d := by omega
  have hor : bits .or .u64 ((h : Int) * 4294967296) l = ((h * 4294967296 + l : Nat) : Int) := by
    have e : (h : Int) * 4294967296 = ((h * 4294967296 : Nat) : Int) := by omega
    rw [e, u64_or_nat _ _ (by omega) (by omega), nat_join 32 _ _ (by omega) (by omega)]
  have hq : divQ h l d < 4294967296 := by
    unfold divQ
    rw [Nat.div_lt_iff_lt_mul (by omega)]
    have : (h + 1) * 4294967296 ≤ d * 4294967296 := Nat.mul_le_mul_right _ (by omega)
    rw [Nat.mul_comm 4294967296 d]; omega
  have hr : divR h l d < d := Nat.mod_lt _ (by omega)
  have e1 : (divQ h l d : Int) = IntKind.u64.wrap ((bits .or .u64 ((h : Int) * 4294967296) l).tdiv d) % 4294967296 := by
    have e : (((h * 4294967296 + l : Nat) : Int)).tdiv (d : Int) = (divQ h l d : Int) := by rw [divQ, Int.natCast_ediv, Int.tdiv_eq_ediv_of_nonneg (by omega)]
    rw [hor, e, IntKind.wrap_u64]; omega
  have e2 : (divR h l d : Int) = (bits .or .u64 ((h : Int) * 4294967296) l).tmod d % 4294967296 := by
    have e : (((h * 4294967296 + l : Nat) : Int)).tmod (d : Int) = (divR h l d : Int) := by rw [divR, Int.natCast_emod, Int.tmod_eq_emod_of_nonneg (by omega)]
    rw [hor, e]; omega
  rw [e1, e2]
  clear e1 e2 hor hq hr
  go_enter Try.func82, Try.ntmps82
  go_wp2
  go_quiet (fail)
  go_wp2
  go_ret2
  exact ⟨rfl, _, rfl⟩
end Go.Proofs.Ytebmegodeglobaa

namespace Go.Proofs.Ytebmegodeglobaa
open Go.RowKit

theorem cast_mulHi (c o x y : Nat) : ((mulHi c o x y : Nat) : Int) = ((c : Int) + ((o : Int) + (x : Int) * (y : Int))) / 4294967296 := by
  unfold mulHi; rw [Int.natCast_ediv, Int.natCast_add, Int.natCast_add, Int.natCast_mul]; rfl
theorem cast_mulLo (c o x y : Nat) : ((mulLo c o x y : Nat) : Int) = ((c : Int) + ((o : Int) + (x : Int) * (y : Int))) % 4294967296 := by
  unfold mulLo; rw [Int.natCast_emod, Int.natCast_add, Int.natCast_add, Int.natCast_mul]; rfl
/-- The results are a quotient and a remainder of one limb. -/
def RetShort (w : World) (q r : Nat) (e : Ending) (w' : World) : Prop := ∃ v, e = .returned (.tuple #[v, .int .u32 (r : Int)]) ∧ Sl w' v (limbs q) ∧ Below w.heap.size w w'

set_option maxRecDepth 100000 in
set_option maxHeartbeats 1000000 in
/-- times: the product, as a number of its own. -/
theorem times_c (w : World) (va vb : Value) (a b : List Nat) (h : Sl w va a) (k : Sl w vb b) (ha : a.length ≤ 1000000) (hb : b.length ≤ 1000000) :
    Calls Try.prog 40 #[va, vb] w (RetNat w (val a * val b)) := by
  have hs := h
  have ks := k
  obtain ⟨h0, p, cap, rfl, h2, h3, h5, h6⟩ := h
  obtain ⟨k0, q, cap', rfl, k2, k3, k5, k6⟩ := k
  have HS := Lib.hid hs
  have KS := Lib.hid ks
  clear hs ks h5 h6 k5 k6
  have hmk := run_make32 (a.length + b.length) (by omega)
  rw [show ((a.length + b.length : Nat) : Int) = (a.length : Int) + b.length from by omega] at hmk
  go_enter Try.func40, Try.ntmps40
  go_wp2
  go_loopw [19] (fun t wr => ∃ (i : Nat) (o : List Nat), i ≤ a.length ∧ t = .int .i64 (i : Int) ∧ Row32 wr w.heap.size o ∧ Hid (TimesRel a b o i) ∧ Below w.heap.size w wr) (fun t _ => a.length - (intOf t).toNat)
  case atStart => exact ⟨0, _, Nat.zero_le _, rfl, Row32.made w _, TimesRel.start a b, (Below.refl _ w).alloc (Nat.le_refl _) _⟩
  case round =>
    obtain ⟨i, o, hi, rfl, hrow, hrel, hbl⟩ := hrel
    have r1 := hrel.out.1
    have r2 := hrel.out.2.1
    by_cases hlt : i < a.length
    · have hsz := hbl.size
      obtain ⟨_, _, _, hv, _, _, _, h6⟩ := HS.out
      obtain ⟨rfl, rfl⟩ : p = _ ∧ cap = _ := by simpa using hv
      obtain ⟨b1, o1, rfl, hb1, hc1⟩ := h6 (by omega)
      have hca : wr.cell? ⟨b1, o1 + i, none⟩ = some (.int .u32 ((lim a i : Nat) : Int)) := (hbl.cell (p := ⟨b1, o1 + i, none⟩) hb1).trans (hc1 i hlt)
      have HROW := Lib.hid hrow
      have hax := h0.getD i
      clear hc1 h6 hv hrow hmk r1 r2
      obtain ⟨wo, rfl⟩ : ∃ wo : World, wo = wr := ⟨_, rfl⟩
      go_wp2
      go_loopw [8, 26] (fun c t wi => ∃ (k x : Nat) (oi : List Nat), k ≤ b.length ∧ x < 4294967296 ∧ c = .int .u64 (x : Int) ∧ t = .int .i64 (k : Int) ∧ Row32 wi w.heap.size oi ∧ Hid (TimesIn a b oi i k x) ∧ Below w.heap.size w wi) (fun _ t _ => b.length - (intOf t).toNat)
      case atStart => exact ⟨0, 0, o, Nat.zero_le _, by omega, rfl, rfl, HROW.out, hrel.out.row, hbl⟩
      case round =>
        obtain ⟨k, x, oi, hk, hx, rfl, rfl, hrow, hrin, hbi⟩ := hrel
        have q1 := hrin.out.1
        have q2 := hrin.out.2.1
        have hsz2 := hbi.size
        by_cases hlk : k < b.length
        · obtain ⟨_, _, _, hv, _, _, _, k6⟩ := KS.out
          obtain ⟨rfl, rfl⟩ : q = _ ∧ cap' = _ := by simpa using hv
          obtain ⟨b2, o2, rfl, hb2, hc2⟩ := k6 (by omega)
          have hcb : wr.cell? ⟨b2, o2 + k, none⟩ = some (.int .u32 ((lim b k : Nat) : Int)) := (hbi.cell (p := ⟨b2, o2 + k, none⟩) hb2).trans (hc2 k hlk)
          have hrc := hrow.cell (i := i + k) (by omega)
          have hrf := hrow.frozen (i + k)
          have HR2 := Lib.hid hrow
          have hbx := k0.getD k
          have hox := q2.getD (i + k)
          have hp1 := prod_le hax hbx
          have hp2 : (0 : Int) ≤ (lim a i : Int) * (lim b k : Int) := by rw [← Int.natCast_mul]; omega
          have hp3 : (lim a i : Int) * (lim b k : Int) ≤ 18446744065119617025 := by rw [← Int.natCast_mul]; omega
          clear hc2 k6 hv hrow hp1 q1 q2
          go_wp2
          go_roundw
          case rel => exact ⟨k + 1, mulHi x (lim oi (i + k)) (lim a i) (lim b k), _, by omega, mulHi_lt hx hox hax hbx, by rw [cast_mulHi], by go_num, HR2.out.set' (i + k) _ (by rw [cast_mulLo]), hrin.out.step h0 k0 hlt hlk, hbi.setCell (Nat.le_refl _) _⟩
          case measure => simp [intOf]; omega
        · obtain rfl : k = b.length := by omega
          have hrc := hrow.cell (i := i + b.length) (by omega)
          have hrf := hrow.frozen (i + b.length)
          have HR2 := Lib.hid hrow
          clear hrow q1 q2
          go_wp2
          go_roundw
          case rel => exact ⟨i + 1, _, by omega, by go_num, HR2.out.set' (i + b.length) x (by omega), hrin.out.done hlt, hbi.setCell (Nat.le_refl _) _⟩
          case measure => simp [intOf]; omega
    · obtain rfl : i = a.length := by omega
      have hsz := hbl.size
      have hs2 := Sl.of_row (cap := a.length + b.length) hrow r2 (by omega) (by omega)
      rw [r1] at hs2
      have hd : val o = val a * val b := by have := hrel.out.2.2.1; rwa [List.take_length] at this
      have HS2 := Lib.hid hs2
      have D1 := Lib.hid hd
      clear hrow hmk r1 hs2 hd
      go_wp2_with fail
      refine (trim_c _ _ _ HS2.out).mono ?_
      rw [D1.out]
      rintro e w' ⟨⟨a', cap'', hv, rfl, hs'⟩, rfl⟩
      clear hv
      have HS' := Lib.hid hs'
      clear hs'
      go_wp2
      go_ret
      exact ⟨_, rfl, HS'.out, hbl⟩

set_option maxRecDepth 100000 in
set_option maxHeartbeats 1000000 in
/-- short: quotient and remainder by one limb. -/
theorem short_c (w : World) (va : Value) (a : List Nat) (d : Nat) (h : Sl w va a) (hd : 0 < d) (hd2 : d < 4294967296) (ha : a.length ≤ 1000000) :
    Calls Try.prog 73 #[va, .int .u32 (d : Int)] w (RetShort w (val a / d) (val a % d)) := by
  have hs := h
  obtain ⟨h0, p, cap, rfl, h2, h3, h5, h6⟩ := h
  have HS := Lib.hid hs
  clear hs h5 h6
  have hmk := run_make32 a.length (by omega)
  go_enter Try.func73, Try.ntmps73
  go_wp2
  go_loopw [7, 8] (fun r t wr => ∃ (i x : Nat) (o : List Nat), i ≤ a.length ∧ x < d ∧ r = .int .u32 (x : Int) ∧ t = .int .i64 ((i : Int) - 1) ∧ Row32 wr w.heap.size o ∧ Hid (ShortRel a o d i x) ∧ Below w.heap.size w wr) (fun _ t _ => (intOf t + 1).toNat)
  case atStart => exact ⟨a.length, 0, _, Nat.le_refl _, hd, rfl, rfl, Row32.made w _, ShortRel.start a hd, (Below.refl _ w).alloc (Nat.le_refl _) _⟩
  case round =>
    obtain ⟨i, x, o, hi, hx, rfl, rfl, hrow, hrel, hbl⟩ := hrel
    have r1 := hrel.out.1
    have r2 := hrel.out.2.1
    have hsz := hbl.size
    rcases Nat.eq_zero_or_pos i with hz | hp
    · subst hz
      have hs2 := Sl.of_row (cap := a.length) hrow r2 (by omega) (by omega)
      rw [r1] at hs2
      obtain ⟨d1, d2⟩ := hrel.out.done
      have HS2 := Lib.hid hs2
      have D1 := Lib.hid d1
      have D2 := Lib.hid d2
      clear hrow hmk r1 hs2 d1 d2
      go_wp2_with fail
      refine (trim_c _ _ _ HS2.out).mono ?_
      rw [D1.out]
      rintro e w' ⟨⟨a', cap'', hv, rfl, hs'⟩, rfl⟩
      clear hv
      have HS' := Lib.hid hs'
      clear hs'
      go_wp2
      go_ret2
      exact ⟨_, by rw [← D2.out]; rfl, HS'.out, hbl⟩
    · obtain ⟨m, rfl⟩ : ∃ m, i = m + 1 := ⟨i - 1, by omega⟩
      obtain ⟨_, _, _, hv, _, _, _, h6⟩ := HS.out
      obtain ⟨rfl, rfl⟩ : p = _ ∧ cap = _ := by simpa using hv
      obtain ⟨b1, o1, rfl, hb1, hc1⟩ := h6 (by omega)
      have hca : wr.cell? ⟨b1, o1 + m, none⟩ = some (.int .u32 ((lim a m : Nat) : Int)) := (hbl.cell (p := ⟨b1, o1 + m, none⟩) hb1).trans (hc1 m (by omega))
      have hrc := hrow.cell (i := m) (by omega)
      have hrf := hrow.frozen m
      have HROW := Lib.hid hrow
      have hax := h0.getD m
      have em : ((m + 1 : Nat) : Int) - 1 = (m : Int) := by omega
      rw [em]
      clear hc1 h6 hv hrow hmk em r1 r2
      go_wp2_with fail
      refine (div32_c _ _ _ hx hax hd2 _).mono ?_
      rintro e w' ⟨rfl, n, rfl⟩
      go_wp2
      go_roundw
      case rel => exact ⟨m, _, _, by omega, divR_lt hx, rfl, rfl, (HROW.out.drewN n).set m _, hrel.out.step h0 (by omega), (hbl.trans (below_drewN _ n _)).setCell (Nat.le_refl _) _⟩
      case measure => simp [intOf]
end Go.Proofs.Ytebmegodeglobaa

namespace Go.Proofs
open Go.Shelf
def Try.lays128_ren : Go.Shelf.Ren := ⟨fun | 128 => 83 | n => n, fun | 51 => 95 | 3 => 3 | 4 => 4 | 46 => 96 | 5 => 5 | 9 => 9 | n => n, fun | n => n⟩
theorem Try.lays128 : Go.Proofs.Lays.n128 Try.prog Try.lays128_ren := {
  mixed := by kernel_rfl
  f128 := Try.func83.trans (congrArg some (by kernel_rfl))
  t3 := Try.underlying3
  a3 := Try.isAgg3
  z3 := Try.sizeOf3
  v3 := Try.zeroValue3
  t4 := Try.underlying4
  a4 := Try.isAgg4
  z4 := Try.sizeOf4
  v4 := Try.zeroValue4
  t5 := Try.underlying5
  a5 := Try.isAgg5
  z5 := Try.sizeOf5
  v5 := Try.zeroValue5
  t9 := Try.underlying9
  a9 := Try.isAgg9
  z9 := Try.sizeOf9
  v9 := Try.zeroValue9
  t46 := Try.underlying96
  a46 := Try.isAgg96
  z46 := Try.sizeOf96
  v46 := Try.zeroValue96
  t51 := Try.underlying95
  a51 := Try.isAgg95
  z51 := Try.sizeOf95
  v51 := Try.zeroValue95 }
/-- bits.Len32: "Len32 returns the minimum number of bits required to represent x; the result is 0 for x == 0.": IT RETURNS 'Lib.bitLen x'; the world is as it was. ('h0', 'h1': x is a uint32.) (LAID: no walk: one application.) -/
theorem Try.bits_Len32 (x : Int) (w : World) (h0 : 0 ≤ x) (h1 : x ≤ 4294967295) :
    Calls Try.prog 83 #[.int .u32 x] w fun e w' => e = .returned (.int .i64 (Lib.bitLen x.toNat)) ∧ w' = w := Any.bits_Len32 Try.lays128 x w h0 h1
def Try.lays133_ren : Go.Shelf.Ren := ⟨fun | 133 => 74 | 128 => 83 | n => n, fun | 51 => 95 | 3 => 3 | 4 => 4 | 46 => 96 | 5 => 5 | 9 => 9 | n => n, fun | n => n⟩
theorem Try.lays133 : Go.Proofs.Lays.n133 Try.prog Try.lays133_ren := {
  mixed := by kernel_rfl
  f128 := Try.func83.trans (congrArg some (by kernel_rfl))
  f133 := Try.func74.trans (congrArg some (by kernel_rfl))
  t3 := Try.underlying3
  a3 := Try.isAgg3
  z3 := Try.sizeOf3
  v3 := Try.zeroValue3
  t4 := Try.underlying4
  a4 := Try.isAgg4
  z4 := Try.sizeOf4
  v4 := Try.zeroValue4
  t5 := Try.underlying5
  a5 := Try.isAgg5
  z5 := Try.sizeOf5
  v5 := Try.zeroValue5
  t9 := Try.underlying9
  a9 := Try.isAgg9
  z9 := Try.sizeOf9
  v9 := Try.zeroValue9
  t46 := Try.underlying96
  a46 := Try.isAgg96
  z46 := Try.sizeOf96
  v46 := Try.zeroValue96
  t51 := Try.underlying95
  a51 := Try.isAgg95
  z51 := Try.sizeOf95
  v51 := Try.zeroValue95 }
/-- bits.LeadingZeros32: "LeadingZeros32 returns the number of leading zero bits in x; the result is 32 for x == 0.": IT RETURNS '32 - Lib.bitLen x'; the world is as it was. ITS CALLEE bits.Len32 IS MET BY ITS OWN CONTRACT OFF THE SHELF (lay that first): entered in place it sends the kernel out of memory. (LAID: no walk: one application.) -/
theorem Try.bits_LeadingZeros32 (x : Int) (w : World) (h0 : 0 ≤ x) (h1 : x ≤ 4294967295) :
    Calls Try.prog 74 #[.int .u32 x] w fun e w' => e = .returned (.int .i64 (32 - (Lib.bitLen x.toNat : Int))) ∧ w' = w := Any.bits_LeadingZeros32 Try.lays133 x w h0 h1
def Try.lays111_ren : Go.Shelf.Ren := ⟨fun | 111 => 12 | n => n, fun | 28 => 22 | 3 => 3 | 4 => 4 | 0 => 0 | n => n, fun | n => n⟩
theorem Try.lays111 : Go.Proofs.Lays.n111 Try.prog Try.lays111_ren := {
  mixed := by kernel_rfl
  f111 := Try.func12.trans (congrArg some (by kernel_rfl))
  t0 := Try.underlying0
  a0 := Try.isAgg0
  z0 := Try.sizeOf0
  v0 := Try.zeroValue0
  t3 := Try.underlying3
  a3 := Try.isAgg3
  z3 := Try.sizeOf3
  v3 := Try.zeroValue3
  t4 := Try.underlying4
  a4 := Try.isAgg4
  z4 := Try.sizeOf4
  v4 := Try.zeroValue4
  t28 := Try.underlying22
  a28 := Try.isAgg22
  z28 := Try.sizeOf22
  v28 := Try.zeroValue22 }
open Go.RowKit Go.Lib in
/-- slices.Equal at []int: "Equal reports whether two slices are equal: the same length and all elements equal. If the lengths are different, Equal returns false. Otherwise, the elements are compared in increasing index order, and the comparison stops at the first unequal pair. Empty and nil slices are considered equal.": IT RETURNS WHETHER THE TWO LISTS OF ELEMENTS ARE ONE; the world is as it was but for the count of draws (the test 's1[i] != s2[i]' has two reads, whose order the model draws, once a round). 'xs', 'ys': what the cells behind the two addresses hold (the spare capacity too, if you have it); 'xs.take n', 'ys.take m': the elements. THE TWO SLICES MAY OVERLAP. (LAID: no walk: one application.) -/
theorem Try.slices_Equal_int (b1 o1 n c b2 o2 m d : Nat) (xs ys : List Int) (w : World) (hx : n ≤ xs.length) (hy : m ≤ ys.length) (hbig : n ≤ 9223372036854775807) (hbig2 : m ≤ 9223372036854775807) (hc1 : ∀ j, j < xs.length → w.cell? ⟨b1, o1 + j, none⟩ = some (.int .i64 (xs.getD j 0))) (hc2 : ∀ j, j < ys.length → w.cell? ⟨b2, o2 + j, none⟩ = some (.int .i64 (ys.getD j 0))) :
    Calls Try.prog 12 #[.slice (some ⟨b1, o1, none⟩) n c, .slice (some ⟨b2, o2, none⟩) m d] w fun e w' => e = .returned (.bool (xs.take n == ys.take m)) ∧ ∃ q, w' = w.drewN q := Any.slices_Equal_int Try.lays111 b1 o1 n c b2 o2 m d xs ys w hx hy hbig hbig2 hc1 hc2
open Go.RowKit Go.Lib in
/-- The same where the first is of length 0 (a nil one too): no cell is asked for. (LAID: no walk: one application.) -/
theorem Try.slices_Equal_int_empty (a1 a2 : Option Addr) (c m d : Nat) (w : World) (hbig2 : m ≤ 9223372036854775807) :
    Calls Try.prog 12 #[.slice a1 0 c, .slice a2 m d] w fun e w' => e = .returned (.bool (decide (m = 0))) ∧ w' = w := Any.slices_Equal_int_empty Try.lays111 a1 a2 c m d w hbig2
def Try.laysNm215_ren : Go.Shelf.Ren := ⟨fun | 15 => 16 | n => n, fun | 22 => 22 | 3 => 3 | 4 => 4 | n => n, fun | n => n⟩
theorem Try.laysNm215 : Go.Proofs.Lays2.n15 Try.prog Try.laysNm215_ren := {
  mixed := by kernel_rfl
  f15 := Try.func16.trans (congrArg some (by kernel_rfl))
  t3 := Try.underlying3
  a3 := Try.isAgg3
  z3 := Try.sizeOf3
  v3 := Try.zeroValue3
  t4 := Try.underlying4
  a4 := Try.isAgg4
  z4 := Try.sizeOf4
  v4 := Try.zeroValue4
  t22 := Try.underlying22
  a22 := Try.isAgg22
  z22 := Try.sizeOf22
  v22 := Try.zeroValue22
  i3 := by kernel_rfl }
open Go.RowKit Go.Lib in
/-- slices.Clone at []int: "Clone returns a copy of the slice. The elements are copied using assignment, so this is a shallow clone. The result may have additional unused capacity. The result preserves the nilness of s.": OF A SLICE THAT IS NOT nil IT RETURNS A SLICE THAT IS NOT nil, OF THE SAME ELEMENTS, IN MEMORY OF THE CALL's OWN: in the how-to's words (6f): 'w'.ownsRow B e 1 v' n cells': v' begins at the head of a row among the blocks from B on (B: the heap's size at the call), not frozen, whose first cells are the elements · 'Below B w w'': below B all is as it was. The capacity is whatever the run-time gives. 'zs': what the cells behind the slice's address hold; 'zs.take n': its elements. (LAID: no walk: one application.) -/
theorem Try.slices_Clone_int (b off n c : Nat) (zs : List Int) (w : World) (hz : n ≤ zs.length) (hbig : n * 8 ≤ 140737488355328) (hc : ∀ j, j < zs.length → w.cell? ⟨b, off + j, none⟩ = some (.int .i64 (zs.getD j 0))) :
    Calls Try.prog 16 #[.slice (some ⟨b, off, none⟩) n c] w fun e w' => ∃ v', e = .returned v' ∧ w'.ownsRow w.heap.size 3 1 v' n ((zs.take n).map (Value.int .i64)) ∧ v' ≠ .slice none 0 0 ∧ Below w.heap.size w w' := Any.slices_Clone_int Try.laysNm215 b off n c zs w hz hbig hc
open Go.RowKit Go.Lib in
/-- The same at nil: nil comes back; the world is as it was. (LAID: no walk: one application.) -/
theorem Try.slices_Clone_int_nil (n c : Nat) (w : World) :
    Calls Try.prog 16 #[.slice none n c] w fun e w' => e = .returned (.slice none 0 0) ∧ w' = w := Any.slices_Clone_int_nil Try.laysNm215 n c w
open Go.RowKit Go.Lib in
/-- The same at a slice of length 0 that is not nil, WHATEVER ITS ADDRESS (no cell is asked for): a slice that is not nil and owns nothing comes back. (LAID: no walk: one application.) -/
theorem Try.slices_Clone_int_zero (a : Addr) (c : Nat) (w : World) :
    Calls Try.prog 16 #[.slice (some a) 0 c] w fun e w' => ∃ v', e = .returned v' ∧ w'.ownsRow w.heap.size 3 1 v' 0 [] ∧ v' ≠ .slice none 0 0 ∧ Below w.heap.size w w' := Any.slices_Clone_int_zero Try.laysNm215 a c w
open Go.RowKit Go.Lib in
theorem Try.slices_Equal_int_lens (a1 a2 : Option Addr) (n c m d : Nat) (w : World) (hnm : n ≠ m) :
    Calls Try.prog 12 #[.slice a1 n c, .slice a2 m d] w fun e w' => e = .returned (.bool false) ∧ w' = w := Any.slices_Equal_int_lens Try.lays111 a1 a2 n c m d w hnm
end Go.Proofs

namespace Go.Proofs.Ytebmegodeglobaa
open Go.RowKit

/-- The result is a new row of limbs. -/
def RetRow (w : World) (n : Nat) (p : List Nat → Prop) (e : Ending) (w' : World) : Prop :=
  ∃ g o, e = .returned (.slice (some ⟨g, 0, none⟩) n n) ∧ w.heap.size ≤ g ∧ Row32 w' g o ∧ o.length = n ∧ Lb o ∧ p o ∧ Below w.heap.size w w'

set_option maxRecDepth 100000 in
set_option maxHeartbeats 1000000 in
theorem shifted_c (w : World) (va : Value) (a : List Nat) (s : Nat) (h : Sl w va a) (hs : s < 32) (ha : a.length ≤ 1000000) :
    Calls Try.prog 75 #[va, .int .i64 (s : Int)] w (RetRow w (a.length + 1) (fun o => val o = val a * 2 ^ s)) := by
  have hs' := h
  obtain ⟨h0, p, cap, rfl, h2, h3, h5, h6⟩ := h
  have HS := Lib.hid hs'
  clear hs' h5 h6
  have hmk := run_make32 (a.length + 1) (by omega)
  rw [show ((a.length + 1 : Nat) : Int) = (a.length : Int) + 1 from by omega] at hmk
  go_enter Try.func75, Try.ntmps75
  go_wp2
  go_loopw [14] (fun t wr => ∃ (i : Nat) (o : List Nat), i ≤ a.length ∧ t = .int .i64 (i : Int) ∧ Row32 wr w.heap.size o ∧ Hid (ShRel a o s i) ∧ Below w.heap.size w wr) (fun t _ => a.length - (intOf t).toNat)
  case atStart => exact ⟨0, _, Nat.zero_le _, rfl, Row32.made w _, ShRel.start a s, (Below.refl _ w).alloc (Nat.le_refl _) _⟩
  case round =>
    obtain ⟨i, o, hi, rfl, hrow, hrel, hbl⟩ := hrel
    have r1 := hrel.out.1
    have r2 := hrel.out.2.1
    have hsz := hbl.size
    by_cases hlt : i < a.length
    · obtain ⟨_, _, _, hv, _, _, _, h6⟩ := HS.out
      obtain ⟨rfl, rfl⟩ : p = _ ∧ cap = _ := by simpa using hv
      obtain ⟨b1, o1, rfl, hb1, hc1⟩ := h6 (by omega)
      have hca : wr.cell? ⟨b1, o1 + i, none⟩ = some (.int .u32 ((lim a i : Nat) : Int)) := (hbl.cell (p := ⟨b1, o1 + i, none⟩) hb1).trans (hc1 i hlt)
      have hrc := hrow.cell (i := i) (by omega)
      have hrf := hrow.frozen i
      have hrf2 := hrow.frozen (i + 1)
      have hrow1 := (hrow.set i (shLo s (lim o i) (lim a i)))
      have hrc2 := hrow1.cell (i := i + 1) (by rw [List.length_set]; omega)
      have HROW := Lib.hid hrow
      have hax := h0.getD i
      have hox := r2.getD i
      have hso := sh_or (x := lim a i) hs hrel.out.2.2.2.1
      have hp31 : 2 ^ s ≤ 2147483648 := by
        have := Nat.pow_le_pow_right (n := 2) (by omega) (show s ≤ 31 by omega); omega
      have hprod : lim a i * 2 ^ s ≤ 4294967295 * 2147483648 := Nat.mul_le_mul (by omega) hp31
      have hor : bits .or .u32 ((lim o i : Nat) : Int) (((lim a i : Nat) : Int) * 2 ^ s % 4294967296) = ((shLo s (lim o i) (lim a i) : Nat) : Int) := by
        have e : ((lim a i : Nat) : Int) * 2 ^ s % 4294967296 = ((lim a i * 2 ^ s % 4294967296 : Nat) : Int) := by
          rw [Int.natCast_emod, Int.natCast_mul, Int.natCast_pow]; rfl
        rw [e, u32_or_nat _ _ hox (by omega), hso.1]
      have hwr : IntKind.u64.wrap (((lim a i : Nat) : Int) * 2 ^ s) / 4294967296 % 4294967296 = ((shHi s (lim a i) : Nat) : Int) := by
        have e : ((lim a i : Nat) : Int) * 2 ^ s = ((lim a i * 2 ^ s : Nat) : Int) := by rw [Int.natCast_mul, Int.natCast_pow]; rfl
        rw [e, IntKind.wrap_u64]
        unfold shHi
        omega
      clear hc1 h6 hv hrow hmk r1 r2 hrow1 hso hp31 hprod
      go_wp2
      go_region
      go_wp2
      go_roundw
      case rel => exact ⟨i + 1, _, by omega, by go_num, ((HROW.out.set i _).set (i + 1) _).drew_, hrel.out.step h0 hlt hs, ((hbl.setCell (Nat.le_refl _) _).setCell (Nat.le_refl _) _).drew⟩
      case measure => simp [intOf]; omega
    · obtain rfl : i = a.length := by omega
      obtain ⟨q1, q2, q3, _, _⟩ := hrel.out
      rw [List.take_length] at q3
      clear r1 r2 hmk
      have Q1 := Lib.hid q1
      have Q3 := Lib.hid q3
      have HROW := Lib.hid hrow
      clear q1 q3 hrow
      go_wp2
      go_ret
      exact ⟨_, o, rfl, Nat.le_refl _, HROW.out, Q1.out, q2, Q3.out, hbl⟩

set_option maxHeartbeats 1000000 in
theorem clone_c (w : World) (va : Value) (a : List Nat) (h : Sl w va a) (ha : a.length ≤ 1000000) :
    Calls Try.prog 72 #[va] w fun e w' => ∃ v, e = .returned v ∧ Sl w' v a ∧ Below w.heap.size w w' := by
  have hs := h
  obtain ⟨h0, p, cap, rfl, h2, h3, h5, h6⟩ := h
  rcases p with _ | ad
  · have hz := h5.1 rfl
    have hl : a = [] := List.length_eq_zero_iff.1 (by omega)
    subst hl; subst hz
    have hnil := fun W : World => Lib.run_eql_slice_nil (P := Try.prog) W 24 95 none 0 0 0 0 Try.underlying24
    clear hs h6 h5
    go_enter Try.func72, Try.ntmps72
    go_wp2
    go_ret
    exact ⟨_, rfl, Sl.nil w, Below.refl _ w⟩
  · have hnil := fun W : World => Lib.run_eql_slice_nil (P := Try.prog) W 24 95 (some ad) a.length cap 0 0 Try.underlying24
    have hown := World.ownsRow_made (e := 95) (size := 1) (base := w.heap.size) w #[] 0 (Nat.le_refl _) (by simp) (by simp)
    have hnews := (hs.alloc (.cells #[] 95)).news
    obtain ⟨i0, hi, hz0, hz1, hz2⟩ := info_parts info32
    have HOWN := Lib.hid hown
    have HNEWS := Lib.hid hnews
    have hlm : maxLen = 9223372036854775807 := rfl
    have HLM := Lib.hid hlm
    clear hs h6 h5 hown hnews hlm
    go_enter Try.func72, Try.ntmps72
    go_wp2_with (at_builtin; refine wpList_append_own _ rfl _ _ 24 rfl w.heap.size 95 i0 (.int .u32 0) 1 4 Try.underlying24 hi hz0 hz1 hz2 rfl (by decide) _ _ _ rfl HOWN.out ad a.length cap (a.map u32) rfl ?c1 HNEWS.out ?c3 ?c4 ?c5 ?c6 ?_)
    case c1 => simp
    case c3 => exact fun u hu => one_u32 hu
    case c4 => rw [HLM.out]; omega
    case c5 => omega
    case c6 => simp
    intro v' w1 hown' hgrow _
    have hs' := Sl.of_own (l := a) hown' h0
    have HS := Lib.hid hs'
    clear hs' hown'
    go_wp2
    go_ret
    exact ⟨_, rfl, HS.out, ((Below.refl _ w).alloc (Nat.le_refl _) _).grown hgrow (by simp) (fun k hk => by simp [Value.ownBlock] at hk; omega)⟩
end Go.Proofs.Ytebmegodeglobaa
