/- Canary, plain: rollouts by small numbers. -/
import Derived.Test.YtjjefdkadgkhfaaK27
set_option linter.unusedVariables false
namespace Go.Proofs.Ytjjefdkadgkhfaa

/-- The hosts from the last one down to 0. -/
def hostsN (n : Nat) : List Int := (List.range n).map fun (i : Nat) => (n : Int) - 1 - (i : Int)
/-- The waves of left hosts. -/
def wavesN : Nat → List Nat → List Int
  | left, [] => [(left : Int)]
  | left, w :: ws => if 1 < left then ((1 : Int) + (w : Int) % ((left : Int) - 1)) :: wavesN (left - (1 + w % (left - 1))) ws else [(left : Int)]
/-- A fraction from 0 to 1 by two small numbers. -/
noncomputable def partF2 (a b : Nat) : F := (ofF ((a % (b % 30 + 2) : Nat) : Int) ((b % 30 + 1 : Nat) : Int)).1
/-- The rollout by small numbers. -/
noncomputable def madeR (h : Nat) (ws : List Nat) (r0 r1 b0 b1 most : Nat) : Ro := ⟨hostsN (1 + h % most), wavesN (1 + h % most) ws, partF2 r0 r1, partF2 b0 b1⟩
theorem hostsN_len (n : Nat) : (hostsN n).length = n := by unfold hostsN; simp
theorem wavesN_last {left : Nat} {ws : List Nat} (h : ws = [] ∨ left ≤ 1) : wavesN left ws = [(left : Int)] := by
  cases ws with
  | nil => rfl
  | cons w ws =>
    rw [wavesN, if_neg]
    rcases h with h | h
    · cases h
    · omega
theorem wave_nat {left w : Nat} (h : 1 < left) : (1 : Int) + (w : Int) % ((left : Int) - 1) = ((1 + w % (left - 1) : Nat) : Int) := by
  have : (left : Int) - 1 = ((left - 1 : Nat) : Int) := by omega
  rw [this]
  omega
theorem wavesN_ok : ∀ (ws : List Nat) (left : Nat), 1 ≤ left → (∀ z ∈ wavesN left ws, 1 ≤ z) ∧ (wavesN left ws).sum = (left : Int)
  | [], left, h => by
    rw [wavesN]
    exact ⟨fun z hz => by rw [List.mem_singleton] at hz; omega, by simp⟩
  | w :: ws, left, h => by
    rw [wavesN]
    split
    · rename_i h1
      have hlt : w % (left - 1) < left - 1 := Nat.mod_lt _ (by omega)
      obtain ⟨i1, i2⟩ := wavesN_ok ws (left - (1 + w % (left - 1))) (by omega)
      rw [wave_nat h1]
      refine ⟨fun z hz => ?_, ?_⟩
      · rcases List.mem_cons.1 hz with rfl | hz
        · omega
        · exact i1 z hz
      · rw [List.sum_cons, i2]
        omega
    · exact ⟨fun z hz => by rw [List.mem_singleton] at hz; omega, by simp⟩
theorem part_ok (a b : Nat) : ∃ α β, partF2 a b = fr false α β ∧ Ok false α β ∧ α ≤ β ∧ β ≤ 1000 ∧ Rep (fr false α β) ((a % (b % 30 + 2) : Nat) : Int) (b % 30 + 1) := by
  obtain ⟨α, β, hp, hok, hab, hb, hrep, _⟩ := of_small (j := a % (b % 30 + 2)) (den := b % 30 + 1) (by have := Nat.mod_lt a (show 0 < b % 30 + 2 by omega); omega) (by omega) (by omega)
  exact ⟨α, β, congrArg Prod.fst hp, hok, hab, hb, hrep⟩
theorem madeR_valid (h : Nat) (ws : List Nat) (r0 r1 b0 b1 : Nat) {most : Nat} (hm : 1 ≤ most) (hm16 : most ≤ 16) : ValidR (madeR h ws r0 r1 b0 b1 most) := by
  have hlt : h % most < most := Nat.mod_lt _ hm
  obtain ⟨w1, w2⟩ := wavesN_ok ws (1 + h % most) (by omega)
  obtain ⟨α, β, e1, k1, k2, k3, _⟩ := part_ok r0 r1
  obtain ⟨x, y, e2, l1, l2, l3, _⟩ := part_ok b0 b1
  refine ⟨?_, ?_, ?_, ?_, w1, ?_, ?_, ?_⟩
  · show 1 ≤ (hostsN _).length; rw [hostsN_len]; omega
  · show (hostsN _).length ≤ 16; rw [hostsN_len]; omega
  · intro z hz
    unfold madeR hostsN at hz
    obtain ⟨i, hi, rfl⟩ := List.mem_map.1 hz
    rw [List.mem_range] at hi
    omega
  · show (hostsN _).Nodup
    unfold hostsN
    unfold List.Nodup
    rw [List.pairwise_map]
    exact (List.pairwise_lt_range (n := 1 + h % most)).imp fun {i j} hij => by omega
  · show (wavesN _ _).sum = ((hostsN _).length : Int)
    rw [w2, hostsN_len]
  · show rateE (partF2 r0 r1) = 0
    rw [e1]; exact rateE_ok k1 k2 k3
  · show fracE (partF2 b0 b1) = 0
    rw [e2]; exact fracE_ok l1 l2

/-- Whether a run has decided something at k hosts. -/
def reach : List Dec → Nat → Nat → Bool
  | [], _, _ => false
  | d :: ds, n, k => decide (n = k) || reach ds (n + d.hosts.length) k
theorem reach_far : ∀ {ds : List Dec} {n k : Nat}, k < n → reach ds n k = false
  | [], _, _, _ => rfl
  | d :: ds, n, k, h => by
    rw [reach, reach_far (ds := ds) (by omega), decide_eq_false (by omega), Bool.false_or]
theorem failsN_take {l : List Bool} {n k : Nat} (h : n ≤ k) : failsN (l.take k) n = failsN l n := by
  unfold failsN
  rw [List.take_take, Nat.min_eq_left h]
/-- Next is refused exactly where the run has decided nothing. -/
theorem next_reach {R : Ro} (h : ValidR R) {l : List Bool} {k : Nat} (hl : l.length = R.hosts.length) (hk : k ≤ R.hosts.length) : ∀ (f r : Nat), r + f = R.waves.length → cum R r ≤ k →
    (nextW R (l.take k) r f).2 = if reach (runD R l r f) (cum R r) k = true then 0 else 8
  | 0, r, hr, hc => by
    have : cum R r = R.hosts.length := by rw [show r = R.waves.length by omega]; exact cum_last h
    rw [nextW, runD, reach, decide_eq_true (by omega), Bool.true_or, if_pos rfl]
  | f + 1, r, hr, hc => by
    have hlen : (l.take k).length = k := by rw [List.length_take]; omega
    have hw := cum_wv h (show r < R.waves.length by omega)
    have hho : (hostsOf R (cum R r) (cum R (r + 1))).length = wv R r := hostsOf_len h (by omega)
    rw [nextW, runD, reach, hlen]
    by_cases h1 : k = cum R r
    · rw [if_pos h1, decide_eq_true (by omega), Bool.true_or, if_pos rfl]
    · rw [if_neg h1, decide_eq_false (by omega), Bool.false_or]
      show _ = if reach _ (cum R r + (hostsOf R (cum R r) (cum R (r + 1))).length) k = true then 0 else 8
      rw [hho, hw.1]
      by_cases h2 : k < cum R (r + 1)
      · rw [if_pos h2, reach_far h2]
        rfl
      · rw [if_neg h2, failsN_take (by omega)]
        by_cases h3 : GoB R (cum R (r + 1)) (failsN l (cum R (r + 1)))
        · rw [if_pos h3, if_pos h3]
          exact next_reach h hl hk f (r + 1) (by omega) (by omega)
        · rw [if_neg h3, if_neg h3]
          by_cases h4 : cum R (r + 1) < k
          · rw [if_pos h4, reach, decide_eq_false (by omega)]
            rfl
          · rw [if_neg h4, reach, decide_eq_true (by omega)]
            rfl
end Go.Proofs.Ytjjefdkadgkhfaa
