/- Plain: the values that RatioKnown asks for. -/
import Derived.Test.YtaojdlcailpheaaK28
import Derived.Test.YtaojdlcailpheaaK29
import Derived.Test.YtaojdlcailpheaaK26
import Derived.Test.YtaojdlcailpheaaK27
set_option linter.unusedVariables false
namespace Go.Proofs.Ytaojdlcailpheaa
open Go.RowKit

theorem h01 : Ok false 0 1 := okS (by omega) (by omega) (by omega) (by decide) (fun _ => rfl)
theorem h11 : Ok false 1 1 := okS (by omega) (by omega) (by omega) (by decide) (fun _ => rfl)
theorem hbig (s : Bool) {n : Nat} (h0 : 0 < n) (h : n < 18446744073709551616) : Ok s n 1 := ⟨Nat.le_trans (limbs_mid h) (by omega), by rw [limbs_one]; simp, by omega, Nat.gcd_one_right n, fun e => by omega⟩
theorem k_of0 : ofF 0 (-5) = (fr false 0 1, 0) := by
  unfold ofF
  rw [if_neg (by decide)]
  exact made_to (s := true) (a := 0) (b := 1) rfl rfl h01
theorem k_of10 : ofF 1 0 = (F0, 2) := by unfold ofF; rw [if_pos rfl]
theorem k_least : ofF (-9223372036854775808) 1 = (fr true 9223372036854775808 1, 0) := by
  unfold ofF
  rw [if_neg (by decide)]
  exact made_to (s := true) (n := 9223372036854775808) (d := 1) (a := 9223372036854775808) (b := 1) (by rw [Nat.gcd_one_right, Nat.div_one]) (by rw [Nat.gcd_one_right]) (hbig true (by omega) (by omega))
theorem k_small {n d : Int} {s : Bool} {a b : Nat} (hd : d ≠ 0) (hs : (!(decide (n < 0) == decide (d < 0))) = s) (h1 : n.natAbs / Nat.gcd n.natAbs d.natAbs = a) (h2 : d.natAbs / Nat.gcd n.natAbs d.natAbs = b) (h : Ok (s && decide (0 < a)) a b) (ht : (s && decide (0 < a)) = s) : smallF n d = fr s a b := by
  unfold smallF
  rw [if_neg hd]
  unfold ofF
  rw [if_neg hd, hs, made_to h1 h2 h, ht]
theorem k_s11 : smallF 1 1 = fr false 1 1 := k_small (by decide) rfl rfl rfl h11 rfl
theorem k_int1 : intF (fr true 9223372036854775808 1) = (-9223372036854775808, 0) := by
  rw [intF_fr (hbig true (by omega) (by omega)), if_neg (by rintro (h | h); exact h rfl; have := limbs_mid (n := 9223372036854775808) (by omega); omega), if_pos rfl, if_pos (by omega)]; rfl
theorem k_over : opF subN (fr true 9223372036854775808 1) (fr false 1 1) = (fr true 9223372036854775809 1, 0) := by
  rw [opF_fr (hbig true (by omega) (by omega)) h11]
  unfold subN sumN
  rw [if_pos (by decide)]
  exact made_to (s := true) (n := 9223372036854775808 * 1 + 1 * 1) (d := 1 * 1) (a := 9223372036854775809) (b := 1) (by rw [Nat.mul_one, Nat.gcd_one_right, Nat.div_one]) (by rw [Nat.mul_one, Nat.gcd_one_right]) (hbig true (by omega) (by omega))
theorem k_int2 : intF (fr true 9223372036854775809 1) = (0, 2) := by
  rw [intF_fr (hbig true (by omega) (by omega)), if_neg (by rintro (h | h); exact h rfl; have := limbs_mid (n := 9223372036854775809) (by omega); omega), if_pos rfl, if_neg (by omega)]
theorem t_01 : textX (fr false 0 1) = ⟨#[48, 47, 49]⟩ := by
  rw [textX_fr h01]
  unfold textL
  rw [dS_zero, dS_one (by omega) (by omega)]
  rfl
/-- The digits of a number, told. -/
def digs : Nat → Nat → List Nat
  | 0, _ => []
  | k + 1, n => digs k (n / 10) ++ [48 + n % 10]
theorem dS_digs : ∀ (k n : Nat), 10 ^ k ≤ n → n < 10 ^ (k + 1) → dS n = (digs (k + 1) n).map UInt8.ofNat := by
  intro k
  induction k with
  | zero =>
    intro n h1 h2
    have h1 : 1 ≤ n := h1
    have h2 : n < 10 := h2
    rw [dS_one (by omega) h2]
    simp only [digs, List.nil_append, List.map_cons, List.map_nil, Nat.mod_eq_of_lt h2]
  | succ k ih =>
    intro n h1 h2
    have h0 : 0 < n := Nat.lt_of_lt_of_le (Nat.pow_pos (by omega)) h1
    have g1 : 10 ^ k ≤ n / 10 := (Nat.le_div_iff_mul_le (by omega)).2 (by rw [← Nat.pow_succ]; exact h1)
    have g2 : n / 10 < 10 ^ (k + 1) := (Nat.div_lt_iff_lt_mul (by omega)).2 (by rw [← Nat.pow_succ]; exact h2)
    rw [dS_pos h0, revd_pos h0, List.reverse_cons, List.map_append]
    unfold digs
    rw [List.map_append, ← ih _ g1 g2, dS_pos (Nat.lt_of_lt_of_le (Nat.pow_pos (by omega)) g1)]
    first | rfl | done
theorem digs_len (k n : Nat) : (digs k n).length = k := by
  induction k generalizing n with
  | zero => rfl
  | succ k ih => unfold digs; rw [List.length_append, ih]; rfl
theorem dS_len_is {k n : Nat} (h1 : 10 ^ k ≤ n) (h2 : n < 10 ^ (k + 1)) : (dS n).length = k + 1 := by
  rw [dS_digs k n h1 h2, List.length_map, digs_len]
theorem t_over : textX (fr true 9223372036854775809 1) = ⟨#[45, 57, 50, 50, 51, 51, 55, 50, 48, 51, 54, 56, 53, 52, 55, 55, 53, 56, 48, 57, 47, 49]⟩ := by
  rw [textX_fr (hbig true (by omega) (by omega))]
  unfold textL
  rw [dS_digs 18 _ (by decide) (by decide), dS_one (by omega) (by omega)]
  rfl

/-! the greatest number -/
def bigL : List Nat := List.replicate 32 4294967295
def bigN : Nat := val bigL
theorem rep_val : ∀ k : Nat, val (List.replicate k 4294967295) + 1 = 4294967296 ^ k
  | 0 => rfl
  | k + 1 => by
    have := rep_val k
    rw [List.replicate_succ, Nat.pow_succ]
    simp only [val]
    omega
theorem bigN_is : bigN + 1 = 4294967296 ^ 32 := rep_val 32
theorem bigL_lb : Lb bigL := fun x hx => by
  unfold bigL at hx
  rw [List.mem_replicate] at hx
  omega
theorem big_limbs : limbs bigN = bigL := by
  have h1 : (limbs bigN).length = 32 := by
    have h2 := limbs_len_le bigL_lb
    have h3 : 31 < (limbs bigN).length := limbs_len_ge (by have := bigN_is; have h4 : 4294967296 ^ 32 = 4294967296 ^ 31 * 4294967296 := Nat.pow_succ 4294967296 31; have h5 : 0 < 4294967296 ^ 31 := Nat.pow_pos (by omega); omega)
    have h6 : bigL.length = 32 := List.length_replicate
    have h7 : (limbs bigN).length ≤ 32 := by rw [← h6]; exact h2
    omega
  have := canon_of_len bigL_lb (by show (limbs bigN).length = bigL.length; rw [h1]; exact List.length_replicate.symm)
  exact this.symm
theorem big_pos : 0 < bigN := by have := bigN_is; have h5 : 1 < 4294967296 ^ 32 := Nat.one_lt_pow (by omega) (by omega); omega
theorem big_ok : Ok false bigN 1 := ⟨by rw [big_limbs]; exact Nat.le_of_eq List.length_replicate, by rw [limbs_one]; simp, by omega, Nat.gcd_one_right _, fun _ => rfl⟩
theorem k_badd : ∃ Y, opF sumN (fr false bigN 1) (fr false 1 1) = (Y, 3) := by
  rw [opF_fr big_ok h11]
  unfold sumN
  rw [if_pos rfl]
  unfold made
  rw [if_pos]
  · exact ⟨_, rfl⟩
  · left
    rw [Nat.mul_one, Nat.mul_one, Nat.gcd_one_right, Nat.div_one, bigN_is]
    exact limbs_len_ge (Nat.le_refl _)
theorem big_sub_limbs : limbs (bigN - 1) = 4294967294 :: List.replicate 31 4294967295 := by
  have h := big_limbs
  have e : bigN = 4294967295 + 4294967296 * val (List.replicate 31 4294967295) := rfl
  have e2 : bigN - 1 = 4294967294 + 4294967296 * val (List.replicate 31 4294967295) := by omega
  have h3 : limbs bigN = 4294967295 :: limbs (val (List.replicate 31 4294967295)) := by
    conv => lhs; rw [e]
    exact limbs_cons (by omega) (by omega)
  have h4 : limbs (val (List.replicate 31 4294967295)) = List.replicate 31 4294967295 := by
    rw [h] at h3
    exact (List.cons.inj h3).2.symm
  rw [e2, limbs_cons (by omega) (by omega), h4]
theorem k_bsub : opF subN (fr false bigN 1) (fr false 1 1) = (fr false (bigN - 1) 1, 0) := by
  have hok : Ok false (bigN - 1) 1 := ⟨Nat.le_trans (limbs_len_mono (Nat.sub_le _ _)) big_ok.n32, big_ok.d32, by omega, Nat.gcd_one_right _, fun _ => rfl⟩
  rw [rep_sub (rep_of_ok big_ok) (rep_of_ok h11), ← (rep_of_ok hok).made]
  have e1 : sg false bigN * ((1 : Nat) : Int) - sg false 1 * ((1 : Nat) : Int) = sg false (bigN - 1) := by
    show (bigN : Int) * ((1 : Nat) : Int) - ((1 : Nat) : Int) * ((1 : Nat) : Int) = ((bigN - 1 : Nat) : Int)
    have := big_pos
    omega
  rw [e1]
theorem k_bmul : ∃ Y, opF mulN (fr false bigN 1) (fr false bigN 1) = (Y, 3) := by
  rw [opF_fr big_ok big_ok]
  unfold mulN made
  rw [if_pos]
  · exact ⟨_, rfl⟩
  · left
    rw [Nat.mul_one, Nat.gcd_one_right, Nat.div_one]
    refine limbs_len_ge ?_
    have h1 := bigN_is
    have h2 : 1 < 4294967296 ^ 31 := Nat.one_lt_pow (by omega) (by omega)
    have h4 : 4294967296 ^ 32 = 4294967296 ^ 31 * 4294967296 := Nat.pow_succ 4294967296 31
    have h3 : 2 * bigN ≤ bigN * bigN := Nat.mul_le_mul_right _ (by omega)
    omega
theorem k_bdiv : opF divN (fr false bigN 1) (fr false bigN 1) = (fr false 1 1, 0) := by
  rw [opF_fr big_ok big_ok]
  unfold divN
  rw [if_neg (by have := big_pos; omega)]
  have hp := big_pos
  exact made_to (s := false) (n := bigN * 1) (d := 1 * bigN) (a := 1) (b := 1) (by rw [Nat.mul_one, Nat.one_mul, Nat.gcd_self, Nat.div_self hp]) (by rw [Nat.mul_one, Nat.one_mul, Nat.gcd_self, Nat.div_self hp]) h11
theorem t_11 : textX (fr false 1 1) = ⟨#[49, 47, 49]⟩ := (text_one h11 (by omega) (by omega) (by omega) (by omega)).trans rfl
theorem pow_lo (k : Nat) (hk : k = 308) : Nat.ble (Nat.pow 10 k) (Nat.pow 4294967296 32 - 1) = true := by subst hk; decide +kernel
theorem pow_hi (l : Nat) (hl : l = 309) : Nat.ble (Nat.pow 4294967296 32) (Nat.pow 10 l) = true := by subst hl; decide +kernel
theorem dS_len2 (k n : Nat) (h1 : Nat.pow 10 k ≤ n) (h2 : n < Nat.pow 10 (k + 1)) : (dS n).length = k + 1 := dS_len_is h1 h2
theorem pow_vars {m k l : Nat} (hk : k = 308) (hl : l = 309) (h : m + 1 = Nat.pow 4294967296 32) : Nat.pow 10 k ≤ m ∧ m < Nat.pow 10 l := by
  have h1 := Nat.le_of_ble_eq_true (pow_lo k hk)
  have h2 := Nat.le_of_ble_eq_true (pow_hi l hl)
  rw [← h] at h1 h2
  exact ⟨h1, h2⟩
theorem t_big : (textX (fr false bigN 1)).size = 311 := by
  rw [textX_fr big_ok]
  show (textL false bigN 1).length = 311
  obtain ⟨k, hk⟩ : ∃ k, k = 308 := ⟨_, rfl⟩
  have h := pow_vars hk (l := k + 1) (by omega) bigN_is
  have h3 : (dS bigN).length = 309 := by rw [dS_len2 k bigN h.1 h.2]; omega
  clear h
  have h4 : (dS 1).length = 1 := by rw [dS_one (by omega) (by omega)]; rfl
  unfold textL
  simp only [Bool.false_eq_true, if_false, List.nil_append, List.length_append, List.length_cons, h3, h4]

/-! fractions that are not valid -/
def oddX (i : Nat) : F := match i with
  | 0 => ⟨false, [], []⟩
  | 1 => ⟨false, [0], [1]⟩
  | 2 => ⟨false, [2], [4]⟩
  | 3 => ⟨true, [], [1]⟩
  | 4 => ⟨false, List.replicate 32 0 ++ [1], [1]⟩
  | 5 => ⟨false, [1], []⟩
  | _ => ⟨false, [], [2]⟩
theorem odd_inv (i : Nat) (hi : i < 7) : ¬ ValidF (oddX i) := by
  rintro ⟨h1, h2, h3⟩
  match i, hi with
  | 0, _ => exact absurd h3.pos (by simp [oddX, val])
  | 1, _ =>
    unfold Canon oddX at h1
    simp [val, limbs_zero] at h1
  | 2, _ => exact absurd h3.gcd (by simp [oddX, val])
  | 3, _ => exact absurd (h3.sign (by simp [oddX, val])) (by simp [oddX])
  | 4, _ =>
    have h4 := h3.n32
    unfold Canon at h1
    rw [← h1] at h4
    simp [oddX] at h4
  | 5, _ => exact absurd h3.pos (by simp [oddX, val])
  | 6, _ => exact absurd h3.gcd (by simp [oddX, val])

/-! texts that are no fractions -/
theorem bad_text {s : List UInt8} (m : Bool) (n d : Nat) (h1 : minus1 s = m) (h2 : candN s = n) (h3 : candD s = d) (h : ¬ Ok m n d ∨ textL m n d ≠ s) : readF s = (F0, 4) := by
  refine readF_bad ?_
  rintro ⟨k1, k2⟩
  unfold candF at k1
  rw [h1, h2, h3] at k1 k2
  rcases h with h | h
  · exact h (validF_fr.1 k1)
  · exact h k2
def oddT (i : Nat) : List UInt8 := match i with
  | 0 => []
  | 1 => [47]
  | 2 => [49]
  | 3 => [49, 47]
  | 4 => [47, 49]
  | 5 => [54, 47, 52]
  | 6 => [45, 48, 47, 49]
  | 7 => [48, 49, 47, 50]
  | 8 => [49, 47, 48, 50]
  | 9 => [43, 49, 47, 50]
  | 10 => [49, 47, 50, 32]
  | 11 => [49, 47, 48]
  | 12 => [48, 47, 50]
  | 13 => [45, 45, 49, 47, 50]
  | 14 => [49, 47, 45, 50]
  | _ => [49, 47, 50, 47, 51]
theorem no_den {m : Bool} {n : Nat} : ¬ Ok m n 0 := fun h => absurd h.pos (by omega)
theorem no_gcd {m : Bool} {n d : Nat} (h : Nat.gcd n d ≠ 1) : ¬ Ok m n d := fun k => h k.gcd
theorem odd_text (i : Nat) (hi : i < 16) : readF (oddT i) = (F0, 4) := by
  match i, hi with
  | 0, _ => exact bad_text false 0 0 (by rfl) (by simp [oddT, candN, rest1, minus1, Lib.trimPrefix, Lib.hasPrefix, slash, digN, limbs_zero]) (by simp [oddT, candD, rest1, minus1, Lib.trimPrefix, Lib.hasPrefix, slash, digN, limbs_zero]) (.inl no_den)
  | 1, _ => exact bad_text false 0 0 (by rfl) (by simp [oddT, candN, rest1, minus1, Lib.trimPrefix, Lib.hasPrefix, slash, digN, limbs_zero]) (by simp [oddT, candD, rest1, minus1, Lib.trimPrefix, Lib.hasPrefix, slash, digN, limbs_zero]) (.inl no_den)
  | 2, _ => exact bad_text false 1 0 (by rfl) (by simp [oddT, candN, rest1, minus1, Lib.trimPrefix, Lib.hasPrefix, slash, digN, limbs_zero]) (by simp [oddT, candD, rest1, minus1, Lib.trimPrefix, Lib.hasPrefix, slash, digN, limbs_zero]) (.inl no_den)
  | 3, _ => exact bad_text false 1 0 (by rfl) (by simp [oddT, candN, rest1, minus1, Lib.trimPrefix, Lib.hasPrefix, slash, digN, limbs_zero]) (by simp [oddT, candD, rest1, minus1, Lib.trimPrefix, Lib.hasPrefix, slash, digN, limbs_zero]) (.inl no_den)
  | 4, _ => exact bad_text false 0 1 (by rfl) (by simp [oddT, candN, rest1, minus1, Lib.trimPrefix, Lib.hasPrefix, slash, digN, limbs_zero]) (by simp [oddT, candD, rest1, minus1, Lib.trimPrefix, Lib.hasPrefix, slash, digN, limbs_zero]) (.inr (by unfold textL; (first | rw [dS_zero, dS_one (by omega) (by omega)] | rw [dS_one (by omega) (by omega), dS_one (by omega) (by omega)]); decide))
  | 5, _ => exact bad_text false 6 4 (by rfl) (by simp [oddT, candN, rest1, minus1, Lib.trimPrefix, Lib.hasPrefix, slash, digN, limbs_zero]) (by simp [oddT, candD, rest1, minus1, Lib.trimPrefix, Lib.hasPrefix, slash, digN, limbs_zero]) (.inl (no_gcd (by decide)))
  | 6, _ => exact bad_text true 0 1 (by rfl) (by simp [oddT, candN, rest1, minus1, Lib.trimPrefix, Lib.hasPrefix, slash, digN, limbs_zero]) (by simp [oddT, candD, rest1, minus1, Lib.trimPrefix, Lib.hasPrefix, slash, digN, limbs_zero]) (.inl (fun h => absurd (h.sign rfl) (by decide)))
  | 7, _ => exact bad_text false 1 2 (by rfl) (by simp [oddT, candN, rest1, minus1, Lib.trimPrefix, Lib.hasPrefix, slash, digN, limbs_zero]) (by simp [oddT, candD, rest1, minus1, Lib.trimPrefix, Lib.hasPrefix, slash, digN, limbs_zero]) (.inr (by unfold textL; (first | rw [dS_zero, dS_one (by omega) (by omega)] | rw [dS_one (by omega) (by omega), dS_one (by omega) (by omega)]); decide))
  | 8, _ => exact bad_text false 1 2 (by rfl) (by simp [oddT, candN, rest1, minus1, Lib.trimPrefix, Lib.hasPrefix, slash, digN, limbs_zero]) (by simp [oddT, candD, rest1, minus1, Lib.trimPrefix, Lib.hasPrefix, slash, digN, limbs_zero]) (.inr (by unfold textL; (first | rw [dS_zero, dS_one (by omega) (by omega)] | rw [dS_one (by omega) (by omega), dS_one (by omega) (by omega)]); decide))
  | 9, _ => exact bad_text false 0 2 (by rfl) (by simp [oddT, candN, rest1, minus1, Lib.trimPrefix, Lib.hasPrefix, slash, digN, limbs_zero]) (by simp [oddT, candD, rest1, minus1, Lib.trimPrefix, Lib.hasPrefix, slash, digN, limbs_zero]) (.inl (no_gcd (by decide)))
  | 10, _ => exact bad_text false 1 0 (by rfl) (by simp [oddT, candN, rest1, minus1, Lib.trimPrefix, Lib.hasPrefix, slash, digN, limbs_zero]) (by simp [oddT, candD, rest1, minus1, Lib.trimPrefix, Lib.hasPrefix, slash, digN, limbs_zero]) (.inl no_den)
  | 11, _ => exact bad_text false 1 0 (by rfl) (by simp [oddT, candN, rest1, minus1, Lib.trimPrefix, Lib.hasPrefix, slash, digN, limbs_zero]) (by simp [oddT, candD, rest1, minus1, Lib.trimPrefix, Lib.hasPrefix, slash, digN, limbs_zero]) (.inl no_den)
  | 12, _ => exact bad_text false 0 2 (by rfl) (by simp [oddT, candN, rest1, minus1, Lib.trimPrefix, Lib.hasPrefix, slash, digN, limbs_zero]) (by simp [oddT, candD, rest1, minus1, Lib.trimPrefix, Lib.hasPrefix, slash, digN, limbs_zero]) (.inl (no_gcd (by decide)))
  | 13, _ => exact bad_text true 0 2 (by rfl) (by simp [oddT, candN, rest1, minus1, Lib.trimPrefix, Lib.hasPrefix, slash, digN, limbs_zero]) (by simp [oddT, candD, rest1, minus1, Lib.trimPrefix, Lib.hasPrefix, slash, digN, limbs_zero]) (.inl (no_gcd (by decide)))
  | 14, _ => exact bad_text false 1 0 (by rfl) (by simp [oddT, candN, rest1, minus1, Lib.trimPrefix, Lib.hasPrefix, slash, digN, limbs_zero]) (by simp [oddT, candD, rest1, minus1, Lib.trimPrefix, Lib.hasPrefix, slash, digN, limbs_zero]) (.inl no_den)
  | _ + 16, h => exact absurd h (by omega)
  | 15, _ => exact bad_text false 1 0 (by rfl) (by simp [oddT, candN, rest1, minus1, Lib.trimPrefix, Lib.hasPrefix, slash, digN, limbs_zero]) (by simp [oddT, candD, rest1, minus1, Lib.trimPrefix, Lib.hasPrefix, slash, digN, limbs_zero]) (.inl no_den)

/-! pi, and small fractions -/
theorem hpi : Ok false 314159 100000 := okS (by omega) (by omega) (by omega) (by decide) (fun _ => rfl)
theorem k_pi : ofF 314159 100000 = (fr false 314159 100000, 0) := ofF_ok (a := 314159) (b := 100000) rfl rfl hpi
theorem cf_pi : cf 314159 100000 = [3, 7, 15, 1, 25, 1, 7, 4] := by
  rw [cf_more (by omega) (by decide), show 314159 % 100000 = 14159 from rfl, cf_more (by omega) (by decide), show 100000 % 14159 = 887 from rfl, cf_more (by omega) (by decide), show 14159 % 887 = 854 from rfl,
    cf_more (by omega) (by decide), show 887 % 854 = 33 from rfl, cf_more (by omega) (by decide), show 854 % 33 = 29 from rfl, cf_more (by omega) (by decide), show 33 % 29 = 4 from rfl, cf_more (by omega) (by decide), show 29 % 4 = 1 from rfl, cf_last (by omega) (by decide)]
theorem k_near10 : nearF (fr false 314159 100000) 10 = (fr false 22 7, 0) := by
  rw [nearF_fr hpi, if_neg (by omega), if_neg (by decide)]
  have h2 : nearL (Int.toNat 10) Ch.begun (cf 314159 100000) = ⟨22, 7, 3, 1⟩ := by
    rw [cf_pi]
    simp [nearL, Ch.begun, Ch.after]
  rw [h2]
  have h3 : nearC false 314159 100000 (Int.toNat 10) ⟨22, 7, 3, 1⟩ = fr false 22 7 := pickF_no (by decide)
  rw [h3]
theorem k_near1000 : nearF (fr false 314159 100000) 1000 = (fr false 355 113, 0) := by
  rw [nearF_fr hpi, if_neg (by omega), if_neg (by decide)]
  have h2 : nearL (Int.toNat 1000) Ch.begun (cf 314159 100000) = ⟨355, 113, 333, 106⟩ := by
    rw [cf_pi]
    simp [nearL, Ch.begun, Ch.after]
  rw [h2]
  have h3 : nearC false 314159 100000 (Int.toNat 1000) ⟨355, 113, 333, 106⟩ = fr false 355 113 := pickF_no (by decide)
  rw [h3]
theorem k_near1001 : nearF (fr false 314159 100000) 1001 = (F0, 2) := by rw [nearF_fr hpi, if_pos (by omega)]
theorem hm12 : Ok true 1 2 := okS (by omega) (by omega) (by omega) (by decide) (by omega)
theorem k_sm12 : smallF (-1) 2 = fr true 1 2 := k_small (by decide) rfl rfl rfl hm12 rfl
theorem k_nearm : nearF (fr true 1 2) 1 = (fr true 1 1, 0) := by
  rw [nearF_fr hm12, if_neg (by omega), if_neg (by decide)]
  have h1 : cf 1 2 = [0, 2] := by
    rw [cf_more (by omega) (by decide), show 1 % 2 = 1 from rfl, cf_last (by omega) (by decide)]
  have h2 : nearL (Int.toNat 1) Ch.begun (cf 1 2) = ⟨0, 1, 1, 0⟩ := by
    rw [h1]
    simp [nearL, Ch.begun, Ch.after]
  rw [h2]
  unfold nearC nearK
  rfl
theorem h3110 : Ok false 31 10 := okS (by omega) (by omega) (by omega) (by decide) (by omega)
theorem h227 : Ok false 22 7 := okS (by omega) (by omega) (by omega) (by decide) (by omega)
theorem k_s3110 : smallF 31 10 = fr false 31 10 := k_small (by decide) rfl rfl rfl h3110 rfl
theorem k_s227 : smallF 22 7 = fr false 22 7 := k_small (by decide) rfl rfl rfl h227 rfl
theorem h31 : Ok false 3 1 := okS (by omega) (by omega) (by omega) (by decide) (by omega)
theorem k_s31 : smallF 3 1 = fr false 3 1 := k_small (by decide) rfl rfl rfl h31 rfl
theorem hm72 : Ok true 7 2 := okS (by omega) (by omega) (by omega) (by decide) (by omega)
theorem hm52 : Ok true 5 2 := okS (by omega) (by omega) (by omega) (by decide) (by omega)
theorem k_sm72 : smallF (-7) 2 = fr true 7 2 := k_small (by decide) rfl rfl rfl hm72 rfl
theorem k_sm52 : smallF (-5) 2 = fr true 5 2 := k_small (by decide) rfl rfl rfl hm52 rfl
theorem k_simp1 : simplestF (fr false 31 10) (fr false 22 7) = (fr false 22 7, 0) := by
  rw [simplestF_fr h3110 h227, if_neg (by decide), if_neg (by decide), if_neg (by rintro (h | h); cases h; omega)]
  have : simpN 31 10 22 7 = (22, 7) := by
    rw [simpN_in (by omega) (by omega) (by decide) (by decide)]
    simp only [show 31 % 10 = 1 from rfl, show 22 % 7 = 1 from rfl, show 31 / 10 = 3 from rfl]
    rw [simpN_last (by decide)]
    rfl
  rw [this]
theorem k_simp2 : simplestF (fr false 314159 100000) (fr false 3 1) = (F0, 2) := by
  rw [simplestF_fr hpi h31, if_pos (by decide)]
theorem k_simp3 : simplestF (fr true 7 2) (fr true 5 2) = (fr true 3 1, 0) := by
  rw [simplestF_fr hm72 hm52, if_neg (by decide), if_pos rfl]
  have : simpN 5 2 7 2 = (3, 1) := by
    rw [simpN_above (by omega) (by omega) (by decide) (by decide)]
  rw [this]
theorem t_227 : textX (fr false 22 7) = ⟨#[50, 50, 47, 55]⟩ := by
  rw [textX_fr h227]
  unfold textL
  rw [dS_digs 1 _ (by decide) (by decide), dS_one (by omega) (by omega)]
  rfl
theorem h355 : Ok false 355 113 := okS (by omega) (by omega) (by omega) (by decide) (by omega)
theorem t_355 : textX (fr false 355 113) = ⟨#[51, 53, 53, 47, 49, 49, 51]⟩ := by
  rw [textX_fr h355]
  unfold textL
  rw [dS_digs 2 355 (by decide) (by decide), dS_digs 2 113 (by decide) (by decide)]
  rfl
theorem hm11 : Ok true 1 1 := okS (by omega) (by omega) (by omega) (by decide) (by omega)
theorem t_m11 : textX (fr true 1 1) = ⟨#[45, 49, 47, 49]⟩ := (text_one hm11 (by omega) (by omega) (by omega) (by omega)).trans rfl
theorem hm31 : Ok true 3 1 := okS (by omega) (by omega) (by omega) (by decide) (by omega)
theorem t_m31 : textX (fr true 3 1) = ⟨#[45, 51, 47, 49]⟩ := (text_one hm31 (by omega) (by omega) (by omega) (by omega)).trans rfl
end Go.Proofs.Ytaojdlcailpheaa
