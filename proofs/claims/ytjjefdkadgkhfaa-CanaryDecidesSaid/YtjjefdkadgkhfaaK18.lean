/- Walks of the reference's tails: Exactly, Tail.
   Walks of the reference's tails: above, Critical.
   Canary, plain: which rollouts are valid, and what is decided at their boundaries.
   Walks of package canary: the boundaries of a rollout, yielded one by one.
   Memory words, more: a variable that collects ints; what lies elsewhere is kept.
   Memory words, more: a map from ints to fractions.
   Canary, plain: what Allowed returns. -/
import Derived.Test.YtjjefdkadgkhfaaK17
import Derived.Test.YtjjefdkadgkhfaaK15
import Derived.Test.YtjjefdkadgkhfaaK12
import Derived.TacticsIn
import Derived.BigFrameIn
import Derived.OwnWalkIn
import Derived.TacticsInMore
import Derived.LoopNIn
import Derived.LoopIn
import Derived.Maps.Own
import Derived.Maps.OwnSet
import Derived.Maps.Views
set_option linter.unusedVariables false
namespace Go.Proofs.Ytjjefdkadgkhfaa
open Go.RowKit

theorem checkE_bad {x : F} {g : Bool} (h : rateE x ≠ 0) : checkE x g = rateE x := by unfold checkE; rw [if_neg h]
theorem checkE_false {x : F} (h : rateE x = 0) : checkE x false = 2 := by unfold checkE; rw [if_pos h, if_neg (by simp)]
theorem checkE_true {x : F} (h : rateE x = 0) : checkE x true = 0 := by unfold checkE; rw [if_pos h, if_pos rfl]
/-- The result left as it was made: nothing, with an error. -/
theorem retF_zero {w w1 : World} {R : Nat} {r : Int} {t : TypeId} (hb : Below w.heap.size w w1) (hle : w.heap.size ≤ R) (_ : Box w1 R #[.bool false, .slice none 0 0, .slice none 0 0] t) :
    RetF w (F0, r) (.returned (.tuple #[.agg #[.bool false, .slice none 0 0, .slice none 0 0], .int .i64 r])) (((w1.setCell ⟨R, 0, none⟩ (.bool false)).setCell ⟨R, 1, none⟩ (.slice none 0 0)).setCell ⟨R, 2, none⟩ (.slice none 0 0)) :=
  ⟨_, rfl, IsF.zero _, ((hb.setCell (p := ⟨R, 0, none⟩) hle _).setCell (p := ⟨R, 1, none⟩) hle _).setCell (p := ⟨R, 2, none⟩) hle _⟩
end Go.Proofs.Ytjjefdkadgkhfaa

namespace Go.Proofs.Ytjjefdkadgkhfaa
open Go.RowKit

/-- The error that Critical returns where it returns one. -/
def critErr (r s : Int) : Int := if r = 1 ∨ s = 1 then 1 else 2

theorem abv_le {n a c x y k : Nat} (h : Abv n a c x y k) : k ≤ n := by
  rcases Nat.lt_or_ge n k with h1 | h1
  · unfold Abv at h; rw [tl_gt h1, Nat.zero_mul] at h; omega
  · exact h1
theorem abv_anti {n a c x y i j : Nat} (h : i ≤ j) (hj : Abv n a c x y j) : Abv n a c x y i :=
  Nat.lt_of_lt_of_le hj (Nat.mul_le_mul_right y (tl_anti' a c n h))
theorem critR_first {n a c x y i : Nat} (h1 : ∀ j, j < i → Abv n a c x y j) (h2 : ¬ Abv n a c x y i) : CritR n a c x y i := by
  cases i with
  | zero => exact .inr ⟨fun j _ hj => h2 (abv_anti (Nat.zero_le _) hj), rfl⟩
  | succ i => exact .inl ⟨i, abv_le (h1 i (by omega)), h1 i (by omega), fun j hj _ hA => h2 (abv_anti hj hA), rfl⟩
theorem critR_uniq {n a c x y r s : Nat} (h1 : CritR n a c x y r) (h2 : CritR n a c x y s) : r = s := by
  rcases h1 with ⟨k, hk, ha, hn, rfl⟩ | ⟨hn, rfl⟩ <;> rcases h2 with ⟨l, hl, hb, hm, rfl⟩ | ⟨hm, rfl⟩
  · rcases Nat.lt_trichotomy k l with h | h | h
    · exact absurd hb (hn l h hl)
    · rw [h]
    · exact absurd ha (hm k h hk)
  · exact absurd ha (hm k hk)
  · exact absurd hb (hn l hl)
  · rfl

theorem critF_uniq {n : Int} {X Y : F} {r s : Int × Int} (h1 : critF n X Y r) (h2 : critF n X Y s) : r = s := by
  unfold critF at h1 h2
  split at h1
  · rename_i hc
    rw [if_pos hc] at h2
    obtain ⟨m, rfl, hm⟩ := h1
    obtain ⟨l, rfl, hl⟩ := h2
    rw [critR_uniq hm hl]
  · rename_i hc
    rw [if_neg hc] at h2
    rw [h1, h2]
end Go.Proofs.Ytjjefdkadgkhfaa

namespace Go.Proofs.Ytjjefdkadgkhfaa

theorem take_succ_ati {l : List Int} {k : Nat} (h : k < l.length) : l.take (k + 1) = l.take k ++ [ati l k] := by
  rw [List.take_succ_eq_append_getElem h, ati_get h]
theorem take_succ_atb {l : List Bool} {k : Nat} (h : k < l.length) : l.take (k + 1) = l.take k ++ [atb l k] := by
  rw [List.take_succ_eq_append_getElem h, atb_get h]
theorem drop_ati {l : List Int} {k : Nat} (h : k < l.length) : l.drop k = ati l k :: l.drop (k + 1) := by
  rw [List.drop_eq_getElem_cons h, ati_get h]
theorem sum_succ {l : List Int} {k : Nat} (h : k < l.length) : (l.take (k + 1)).sum = (l.take k).sum + ati l k := by
  rw [take_succ_ati h]; simp
theorem count_succ {l : List Bool} {k : Nat} (h : k < l.length) : (l.take (k + 1)).count true = (l.take k).count true + if atb l k = true then 1 else 0 := by
  rw [take_succ_atb h, List.count_append]
  cases atb l k <;> rfl
theorem sum_pos : ∀ {l : List Int}, (∀ z ∈ l, 1 ≤ z) → (l.length : Int) ≤ l.sum
  | [], _ => by simp
  | z :: l, h => by
    have := sum_pos (l := l) fun y hy => h y (List.mem_cons_of_mem _ hy)
    have := h z (List.mem_cons_self ..)
    simp only [List.length_cons, List.sum_cons]; omega
theorem sum_take_le {l : List Int} (h : ∀ z ∈ l, 1 ≤ z) (k : Nat) : (l.take k).sum ≤ l.sum := by
  have e : l.sum = (l.take k).sum + (l.drop k).sum := by rw [← List.sum_append, List.take_append_drop]
  have := sum_pos (l := l.drop k) fun z hz => h z (List.mem_of_mem_drop hz)
  omega
theorem sum_take_pos {l : List Int} (h : ∀ z ∈ l, 1 ≤ z) (k : Nat) : 0 ≤ (l.take k).sum := by
  have := sum_pos (l := l.take k) fun z hz => h z (List.mem_of_mem_take hz)
  omega
/-- Which rollouts are valid. -/
def ValidR (R : Ro) : Prop := 1 ≤ R.hosts.length ∧ R.hosts.length ≤ 16 ∧ (∀ z ∈ R.hosts, 0 ≤ z ∧ z ≤ 15) ∧ R.hosts.Nodup ∧ (∀ z ∈ R.waves, 1 ≤ z) ∧ R.waves.sum = R.hosts.length ∧ rateE R.rate = 0 ∧ fracE R.bound = 0
/-- The first k hosts are no reason to refuse. -/
def HostsOk (R : Ro) (k : Nat) : Prop := (∀ z ∈ R.hosts.take k, 0 ≤ z ∧ z ≤ 15) ∧ (R.hosts.take k).Nodup
theorem hostsOk_zero (R : Ro) : HostsOk R 0 := by unfold HostsOk; simp
theorem hostsOk_succ {R : Ro} {k : Nat} (h : HostsOk R k) (hk : k < R.hosts.length) (h0 : 0 ≤ ati R.hosts k) (h1 : ati R.hosts k ≤ 15) (h2 : ati R.hosts k ∉ R.hosts.take k) : HostsOk R (k + 1) := by
  unfold HostsOk at *
  rw [take_succ_ati hk]
  refine ⟨fun z hz => ?_, ?_⟩
  · rcases List.mem_append.1 hz with hz | hz
    · exact h.1 z hz
    · rw [List.mem_singleton] at hz; rw [hz]; exact ⟨h0, h1⟩
  · rw [List.nodup_append]
    refine ⟨h.2, by simp, fun a ha b hb => ?_⟩
    rw [List.mem_singleton] at hb
    rw [hb]; rintro rfl; exact h2 ha
theorem hosts_range {R : Ro} {k : Nat} (hk : k < R.hosts.length) (h : ¬ (0 ≤ ati R.hosts k ∧ ati R.hosts k ≤ 15)) : ¬ ValidR R := fun hv => h (hv.2.2.1 _ (ati_mem hk))
theorem hosts_twice {R : Ro} {k : Nat} (hk : k < R.hosts.length) (h : ati R.hosts k ∈ R.hosts.take k) : ¬ ValidR R := fun hv => by
  have hn := hv.2.2.2.1
  rw [← List.take_append_drop k R.hosts, List.nodup_append] at hn
  exact hn.2.2 _ h _ (by rw [drop_ati hk]; exact List.mem_cons_self ..) rfl
/-- The first k waves are no reason to refuse. -/
def WavesOk (R : Ro) (k : Nat) : Prop := ∀ z ∈ R.waves.take k, 1 ≤ z
theorem wavesOk_zero (R : Ro) : WavesOk R 0 := by unfold WavesOk; simp
theorem wavesOk_succ {R : Ro} {k : Nat} (h : WavesOk R k) (hk : k < R.waves.length) (h1 : 1 ≤ ati R.waves k) : WavesOk R (k + 1) := by
  unfold WavesOk at *
  rw [take_succ_ati hk]
  intro z hz
  rcases List.mem_append.1 hz with hz | hz
  · exact h z hz
  · rw [List.mem_singleton] at hz; rw [hz]; exact h1
theorem wave_low {R : Ro} {k : Nat} (hk : k < R.waves.length) (h : ¬ 1 ≤ ati R.waves k) : ¬ ValidR R := fun hv => h (hv.2.2.2.2.1 _ (ati_mem hk))
theorem wave_high {R : Ro} {k : Nat} (hk : k < R.waves.length) (h : (R.hosts.length : Int) < (R.waves.take k).sum + ati R.waves k) : ¬ ValidR R := fun hv => by
  have := sum_take_le hv.2.2.2.2.1 (k + 1)
  rw [sum_succ hk, hv.2.2.2.2.2.1] at this
  omega
theorem wave_big {R : Ro} {k : Nat} (hk : k < R.waves.length) (h : 16 < ati R.waves k) : ¬ ValidR R := fun hv => by
  have h1 := sum_take_pos hv.2.2.2.2.1 k
  have h2 := hv.2.1
  exact wave_high hk (by omega) hv
theorem validR_all {R : Ro} (h1 : 1 ≤ R.hosts.length) (h2 : R.hosts.length ≤ 16) (h3 : HostsOk R R.hosts.length) (h4 : WavesOk R R.waves.length) (h5 : R.waves.sum = R.hosts.length) (h6 : rateE R.rate = 0) (h7 : fracE R.bound = 0) : ValidR R := by
  unfold HostsOk at h3; unfold WavesOk at h4
  rw [List.take_length] at h3 h4
  exact ⟨h1, h2, h3.1, h3.2, h4, h5, h6, h7⟩
/-- How many hosts are done behind r waves. -/
def cum (R : Ro) (r : Nat) : Nat := (R.waves.take r).sum.toNat
theorem cum_zero (R : Ro) : cum R 0 = 0 := by unfold cum; simp
theorem cum_int {R : Ro} (h : ValidR R) (r : Nat) : ((cum R r : Nat) : Int) = (R.waves.take r).sum := by
  unfold cum; have := sum_take_pos h.2.2.2.2.1 r; omega
theorem cum_succ {R : Ro} (h : ValidR R) {r : Nat} (hr : r < R.waves.length) : cum R (r + 1) = cum R r + (ati R.waves r).toNat ∧ 1 ≤ ati R.waves r ∧ ((cum R r : Nat) : Int) + ati R.waves r = (cum R (r + 1) : Nat) := by
  have h1 := cum_int h r
  have h2 := cum_int h (r + 1)
  rw [sum_succ hr] at h2
  have h3 := h.2.2.2.2.1 _ (ati_mem hr)
  refine ⟨by omega, h3, by omega⟩
theorem cum_le {R : Ro} (h : ValidR R) (r : Nat) : cum R r ≤ R.hosts.length := by
  have h1 := cum_int h r
  have h2 := sum_take_le h.2.2.2.2.1 r
  rw [h.2.2.2.2.2.1] at h2
  omega
theorem cum_last {R : Ro} (h : ValidR R) : cum R R.waves.length = R.hosts.length := by
  have h1 := cum_int h R.waves.length
  rw [List.take_length, h.2.2.2.2.2.1] at h1
  omega
/-- The rollout goes on at n hosts with k failures. -/
def GoB (R : Ro) (n k : Nat) : Prop := Abv n (val R.rate.num) (val R.rate.den - val R.rate.num) (val R.bound.num) (val R.bound.den) k
/-- A decision: its kind, its hosts. -/
structure Dec where
  kind : Nat
  hosts : List Int
/-- How many of the first n failed. -/
def failsN (l : List Bool) (n : Nat) : Nat := (l.take n).count true
/-- The hosts of the wave from n to m. -/
def hostsOf (R : Ro) (n m : Nat) : List Int := (R.hosts.take m).drop n
open Classical in
/-- What Next decides from wave r on. -/
noncomputable def nextW (R : Ro) (failed : List Bool) (r : Nat) : Nat → Dec × Int
  | 0 => (⟨3, []⟩, 0)
  | fuel + 1 =>
    if failed.length = cum R r then (⟨1, hostsOf R (cum R r) (cum R (r + 1))⟩, 0)
    else if failed.length < cum R (r + 1) then (⟨0, []⟩, 8)
    else if GoB R (cum R (r + 1)) (failsN failed (cum R (r + 1))) then nextW R failed (r + 1) fuel
    else if cum R (r + 1) < failed.length then (⟨0, []⟩, 8) else (⟨2, []⟩, 0)
open Classical in
/-- What Next returns. -/
noncomputable def nextF (R : Ro) (failed : List Bool) : Dec × Int :=
  if ValidR R then (if R.hosts.length < failed.length then (⟨0, []⟩, 2) else nextW R failed 0 R.waves.length) else (⟨0, []⟩, 1)
theorem failsN_le (l : List Bool) (n : Nat) : failsN l n ≤ n := by
  unfold failsN
  exact Nat.le_trans List.count_le_length (by rw [List.length_take]; omega)
theorem rateE_zero_frac {x : F} (h : rateE x = 0) : fracE x = 0 := by
  rcases fracE_cases x with h0 | h0
  · exact h0
  · have hne : fracE x ≠ 0 := by omega
    rw [rateE_bad hne] at h
    exact h
/-- What is known of a valid rollout's fractions. -/
theorem validR_fr {R : Ro} (h : ValidR R) : ∃ a b x y, R.rate = fr false a b ∧ a ≤ b ∧ 0 < b ∧ b ≤ 1000 ∧ Ok false a b ∧ R.bound = fr false x y ∧ Ok false x y ∧ x ≤ y ∧ ∀ n k, GoB R n k ↔ Abv n a (b - a) x y k := by
  obtain ⟨a, b, e1, h1, h2, h3, e2, e3⟩ := rate_fr h.2.2.2.2.2.2.1
  obtain ⟨x, y, e4, h4, h5, e6, e7⟩ := frac_fr h.2.2.2.2.2.2.2
  refine ⟨a, b, x, y, e1, h1, h2, h3, ?_, e4, h4, h5, fun n k => ?_⟩
  · have := (fracE_zero (rateE_zero_frac h.2.2.2.2.2.2.1)).1
    rw [e1] at this
    exact validF_fr.1 this
  · unfold GoB; rw [e2, e3, e6, e7]
/-- What Critical says of a valid rollout: with how many failures it goes on. -/
theorem crit_goB {R : Ro} (h : ValidR R) {n : Nat} (hn : n ≤ 16) {r : Int × Int} (hr : critF (n : Int) R.rate R.bound r) : ∃ m : Nat, r = ((m : Int), 0) ∧ m ≤ n + 1 ∧ ∀ k : Nat, GoB R n k ↔ k < m := by
  obtain ⟨a, b, x, y, e1, h1, h2, h3, h4, e2, h5, h6, hg⟩ := validR_fr h
  rw [e1, e2] at hr
  unfold critF at hr
  have ht : trialsB (n : Int) 0 0 = true := trialsB_iff.2 ⟨by omega, by omega, by omega, by omega⟩
  have hr0 : rateE (fr false a b) = 0 := by rw [← e1]; exact h.2.2.2.2.2.2.1
  have hf0 : fracE (fr false x y) = 0 := by rw [← e2]; exact h.2.2.2.2.2.2.2
  rw [ht, if_pos ⟨checkE_true hr0, hf0⟩] at hr
  obtain ⟨m, hm, hc⟩ := hr
  change CritR _ (val (limbs a)) (val (limbs b) - val (limbs a)) (val (limbs x)) (val (limbs y)) m at hc
  rw [val_limbs, val_limbs, val_limbs, val_limbs, Int.toNat_natCast] at hc
  refine ⟨m, hm, ?_, fun k => ?_⟩
  · rcases hc with ⟨k, hk, _, _, rfl⟩ | ⟨_, rfl⟩ <;> omega
  · rw [hg]
    rcases hc with ⟨k0, hk, ha, hn', rfl⟩ | ⟨hn', rfl⟩
    · constructor
      · intro hA
        rcases Nat.lt_or_ge k (k0 + 1) with hh | hh
        · exact hh
        · exact absurd hA (hn' k (by omega) (abv_le hA))
      · intro hlt
        exact abv_anti (by omega) ha
    · constructor
      · intro hA; exact absurd hA (hn' k (abv_le hA))
      · intro hlt; omega
end Go.Proofs.Ytjjefdkadgkhfaa

namespace Go.Proofs.Ytjjefdkadgkhfaa
open Go.RowKit

/-- The eight cells of a rollout. -/
def roCells (R : Ro) (p0 p1 p2 p3 p4 p5 : Option Addr) (k0 k1 k2 k3 k4 k5 : Nat) : Array Value := #[.slice p0 R.hosts.length k0, .slice p1 R.waves.length k1, .bool R.rate.neg, .slice p2 R.rate.num.length k2, .slice p3 R.rate.den.length k3, .bool R.bound.neg, .slice p4 R.bound.num.length k4, .slice p5 R.bound.den.length k5]
/-- Block B is the variable of a rollout. -/
def VarR (w : World) (B : Nat) (R : Ro) : Prop := ∃ p0 p1 p2 p3 p4 p5 k0 k1 k2 k3 k4 k5, Box w B (roCells R p0 p1 p2 p3 p4 p5 k0 k1 k2 k3 k4 k5) 32 ∧ IsR w (.agg (roCells R p0 p1 p2 p3 p4 p5 k0 k1 k2 k3 k4 k5)) R
theorem VarR.after {w w' : World} {B : Nat} {R : Ro} (h : VarR w B R) (hb : Below w.heap.size w w') : VarR w' B R := by
  obtain ⟨p0, p1, p2, p3, p4, p5, k0, k1, k2, k3, k4, k5, h1, h2⟩ := h
  exact ⟨p0, p1, p2, p3, p4, p5, k0, k1, k2, k3, k4, k5, h1.after hb, h2.after hb⟩
theorem VarR.soft {w w' : World} {B n : Nat} {R : Ro} (h : VarR w B R) (hs : Soft w n) (hg : w.grownBy w' (some n)) : VarR w' B R := by
  obtain ⟨p0, p1, p2, p3, p4, p5, k0, k1, k2, k3, k4, k5, h1, h2⟩ := h
  exact ⟨p0, p1, p2, p3, p4, p5, k0, k1, k2, k3, k4, k5, h1.soft hs hg, h2.soft hs hg⟩
theorem VarR.lt {w : World} {B : Nat} {R : Ro} (h : VarR w B R) : B < w.heap.size := by
  obtain ⟨p0, p1, p2, p3, p4, p5, k0, k1, k2, k3, k4, k5, h1, h2⟩ := h
  exact h1.lt
/-- What is yielded at boundary r. -/
def BndV (R : Ro) (r : Nat) (args : Array Value) (W : World) : Prop := ∃ (m : Nat) (a : Option Addr) (c : Nat), args = #[.int .i64 (r : Int), .agg #[.int .i64 ((cum R (r + 1) : Nat) : Int), .int .i64 ((m : Int) - 1), .slice a (hostsOf R (cum R r) (cum R (r + 1))).length c]] ∧
  m ≤ cum R (r + 1) + 1 ∧ (∀ k : Nat, GoB R (cum R (r + 1)) k ↔ k < m) ∧ SlI W (.slice a (hostsOf R (cum R r) (cum R (r + 1))).length c) (hostsOf R (cum R r) (cum R (r + 1)))
theorem hostsOf_len {R : Ro} (h : ValidR R) {r : Nat} (hr : r < R.waves.length) : (hostsOf R (cum R r) (cum R (r + 1))).length = cum R (r + 1) - cum R r := by
  unfold hostsOf
  have := cum_le h (r + 1)
  simp; omega

set_option maxRecDepth 100000 in
theorem bounds_t (w : World) (p0 p1 p2 p3 p4 p5 : Option Addr) (n0 n1 n2 n3 n4 n5 k0 k1 k2 k3 k4 k5 : Nat) (s t : Bool) :
    Calls Try.prog 32 #[.agg #[.slice p0 n0 k0, .slice p1 n1 k1, .bool s, .slice p2 n2 k2, .slice p3 n3 k3, .bool t, .slice p4 n4 k4, .slice p5 n5 k5]] w
      fun e w' => e = .returned (.func (.func 54) #[] #[.pointer (some ⟨w.heap.size, 0, none⟩)]) ∧ w' = w.alloc (.cells #[.slice p0 n0 k0, .slice p1 n1 k1, .bool s, .slice p2 n2 k2, .slice p3 n3 k3, .bool t, .slice p4 n4 k4, .slice p5 n5 k5] 32) := by
  go_enter Try.func32, Try.ntmps32
  go_wp2
  go_ret
  exact ⟨rfl, rfl⟩

set_option maxRecDepth 100000 in
set_option maxHeartbeats 4000000 in
theorem bounds1_t (l q : Nat) (W1 : World) (B : Nat) (R : Ro) (p0 p1 p2 p3 p4 p5 : Option Addr) (k0 k1 k2 k3 k4 k5 : Nat) (hv : ValidR R) (J Y : Nat → World → Prop) (hJ : ∀ r W, J r W → Box W B (roCells R p0 p1 p2 p3 p4 p5 k0 k1 k2 k3 k4 k5) 32 ∧ IsR W (.agg (roCells R p0 p1 p2 p3 p4 p5 k0 k1 k2 k3 k4 k5)) R) (hJb : ∀ r W W', J r W → Below W.heap.size W W' → J r W') (hJ0 : J 0 W1)
    (hY : ∀ (r : Nat) (args : Array Value) (W : World), r < R.waves.length → J r W → BndV R r args W → YieldAt Fence.wide q Try.prog l args W fun e W' => (e = .returned (.bool true) ∧ J (r + 1) W') ∨ (e = .returned (.bool false) ∧ Y r W')) :
    Calls Try.prog 54 #[.func (.yield l) #[] #[], .pointer (some ⟨B, 0, none⟩)] W1 fun e W' => (∃ v, e = .returned v) ∧ (J R.waves.length W' ∨ ∃ r, r < R.waves.length ∧ Y r W') := by
  have HJ := Lib.hid hJ
  have HJb := Lib.hid hJb
  have HJ0 := Lib.hid hJ0
  have HY := Lib.hid hY
  have HV := Lib.hid hv
  have hcs : ∀ W, Box W B (roCells R p0 p1 p2 p3 p4 p5 k0 k1 k2 k3 k4 k5) 32 → Box W B #[.slice p0 R.hosts.length k0, .slice p1 R.waves.length k1, .bool R.rate.neg, .slice p2 R.rate.num.length k2, .slice p3 R.rate.den.length k3, .bool R.bound.neg, .slice p4 R.bound.num.length k4, .slice p5 R.bound.den.length k5] 32 := fun _ h => h
  have HCS := Lib.hid hcs
  obtain ⟨bx, hR⟩ := hJ 0 W1 hJ0
  obtain ⟨b0, b1, b2, b3, b4, b5, b6, b7⟩ := (hcs _ bx).cells8
  have hwl : R.waves.length ≤ 9223372036854775807 := by
    obtain ⟨q0, q1, q2, q3, q4, q5, j0, j1, j2, j3, j4, j5, e, h0, h1, h2, h3⟩ := hR.open
    obtain ⟨a, c, e1, m1, m2, _⟩ := h1.shape
    omega
  have cz : Hid (((cum R 0 : Nat) : Int) = 0) := by show _ = _; rw [cum_zero]; rfl
  clear hJ hJb hJ0 hY hv bx hR hcs
  go_enter Try.func54, Try.ntmps54
  go_wp2_with fail
  clear b0 b1 b2 b3 b4 b5 b6 b7
  go_loopg [3, 12] R.waves.length (fun g n i wx => ∃ r : Nat, r ≤ R.waves.length ∧ g = R.waves.length - r ∧ n = .int .i64 ((cum R r : Nat) : Int) ∧ i = .int .i64 (r : Int) ∧ Hid (J r wx))
  case atStart => exact ⟨0, Nat.zero_le _, rfl, by rw [cz.out], rfl, HJ0.out⟩
  case round =>
    obtain ⟨r, hr, rfl, rfl, rfl, hj⟩ := hrel
    by_cases hlt : r < R.waves.length
    · obtain ⟨bx, hR⟩ := HJ.out r wr hj.out
      obtain ⟨b0, b1, b2, b3, b4, b5, b6, b7⟩ := (HCS.out _ bx).cells8
      obtain ⟨q0, q1, q2, q3, q4, q5, j0, j1, j2, j3, j4, j5, e, h0, h1, h2, h3⟩ := hR.open
      unfold roCells at e
      obtain ⟨⟨rfl, rfl⟩, ⟨rfl, rfl⟩, ⟨rfl, rfl⟩, ⟨rfl, rfl⟩, ⟨rfl, rfl⟩, rfl, rfl⟩ : (p0 = q0 ∧ k0 = j0) ∧ (p1 = q1 ∧ k1 = j1) ∧ (p2 = q2 ∧ k2 = j2) ∧ (p3 = q3 ∧ k3 = j3) ∧ (p4 = q4 ∧ k4 = j4) ∧ p5 = q5 ∧ k5 = j5 := by
        injection e with e
        have e := congrArg Array.toList e
        simpa using e
      clear e hR
      have hlen := HV.out.1
      have hlen2 := HV.out.2.1
      obtain ⟨_, cc0, e0, m0, m1, _⟩ := h0.shape
      have hk0 : R.hosts.length ≤ k0 := by injection e0 with x1 x2 x3; omega
      have hk1 : k0 ≤ 9223372036854775807 := by injection e0 with x1 x2 x3; omega
      clear m0 m1
      obtain ⟨bw, offw, rfl, _, hc⟩ := h1.cells (by omega)
      obtain ⟨bh, offh, rfl, _, _⟩ := h0.cells (by omega)
      have hck := hc r hlt
      obtain ⟨s1, s2, s3⟩ := cum_succ HV.out hlt
      have s4 := cum_le HV.out (r + 1)
      have HLT := Lib.hid hlt
      have hpart := h0.part (cum R r) (cum R (r + 1)) (by omega) (by omega)
      have hho : Hid (SlI wr (.slice (some ⟨bh, offh + cum R r, none⟩) (cum R (r + 1) - cum R r) (k0 - cum R r)) (hostsOf R (cum R r) (cum R (r + 1)))) := hpart
      have hhl := Lib.hid (hostsOf_len HV.out hlt)
      have H2 := Lib.hid h2
      have H3 := Lib.hid h3
      have HBV : Hid (∀ m : Nat, m ≤ cum R (r + 1) + 1 → (∀ k : Nat, GoB R (cum R (r + 1)) k ↔ k < m) → ∀ W, Below wr.heap.size wr W → BndV R r #[.int .i64 (r : Int), .agg #[.int .i64 ((cum R (r + 1) : Nat) : Int), .int .i64 ((m : Int) - 1), .slice (some ⟨bh, offh + cum R r, none⟩) (cum R (r + 1) - cum R r) (k0 - cum R r)]] W) := by
        intro m hm hg W hb
        refine ⟨m, some ⟨bh, offh + cum R r, none⟩, k0 - cum R r, by rw [hhl.out], hm, hg, ?_⟩
        rw [hhl.out]
        exact hho.out.after hb
      have HCR : Hid (∀ ru : Int × Int, critF ((cum R (r + 1) : Nat) : Int) R.rate R.bound ru → ∃ m : Nat, ru = ((m : Int), 0) ∧ m ≤ cum R (r + 1) + 1 ∧ ∀ k : Nat, GoB R (cum R (r + 1)) k ↔ k < m) := fun ru h => crit_goB HV.out (by omega) h
      have HYR : Hid (∀ (args : Array Value) (W : World), J r W → BndV R r args W → YieldAt Fence.wide q Try.prog l args W fun e W' => (e = .returned (.bool true) ∧ J (r + 1) W') ∨ (e = .returned (.bool false) ∧ Y r W')) := fun args W h1 h2 => HY.out r args W hlt h1 h2
      clear h0 h1 h2 h3 hc hpart bx hho hhl e0 s1
      obtain ⟨n, hn⟩ : ∃ n, cum R r = n := ⟨_, rfl⟩
      obtain ⟨n', hn'⟩ : ∃ n', cum R (r + 1) = n' := ⟨_, rfl⟩
      obtain ⟨x, hx⟩ : ∃ x, ati R.waves r = x := ⟨_, rfl⟩
      have HN' := Lib.hid hn'
      rw [hn, hn', hx] at s3
      rw [hx] at hck s2
      rw [hn'] at s4
      rw [hn, hn'] at HBV
      rw [hn'] at HCR
      rw [hn]
      clear hn hn' hx
      go_wp2_with fail
      refine (tCritical_c _ (n' : Int) _ _ R.rate R.bound H2.out H3.out).mono ?_
      rintro e w3 ⟨ru, rfl, hru, hb3⟩
      obtain ⟨m, rfl, hm, hg⟩ := HCR.out ru hru
      have HB3 := Lib.hid hb3
      have HG := Lib.hid hg
      have HJ3 := Lib.hid (HJb.out _ _ _ hj.out hb3)
      obtain ⟨fn, tmps, asg, bdy, hy, hR⟩ := HYR.out _ w3 HJ3.out (HBV.out m hm hg w3 hb3)
      clear hru hb3 hg b0 b1 b2 b3 b4 b5 b6 b7 hck
      go_upto_region 7 with fail
      refine (wpIn_wide (n := q + 1)).1 ?_
      gi_wp2
      refine hR.mono ?_
      rintro e W' (⟨rfl, hc⟩ | ⟨rfl, hyy⟩)
      · have HC := Lib.hid hc
        clear hR hy hc
        gi_wp2
        go_wp2_with fail
        go_roundg (R.waves.length - (r + 1))
        case measure => omega
        case rel => exact ⟨r + 1, by omega, rfl, by rw [HN'.out], by go_num, HC.out⟩
      · have HYY := Lib.hid hyy
        clear hyy hR hy
        gi_wp2
        go_wp2_with fail
        refine bodyPost_ret (results_none rfl _ _ _) rfl ?_
        exact ⟨⟨_, rfl⟩, .inr ⟨r, HLT.out, HYY.out⟩⟩
    · obtain rfl : r = R.waves.length := by omega
      go_wp2_with fail
      go_end0
      exact ⟨⟨_, rfl⟩, .inl hj.out⟩
end Go.Proofs.Ytjjefdkadgkhfaa

namespace Go.Proofs.Ytjjefdkadgkhfaa
open Go.RowKit

theorem Box.grown' {w w' : World} {b : Nat} {cs : Array Value} {t : TypeId} {row : Option Nat} (h : Box w b cs t) (hg : w.grownBy w' row) (hb : some b ≠ row) : Box w' b cs t := (hg.block b h.lt hb).trans h
theorem SlV.grownBox {w w' : World} {v : Value} {cs : List Value} {O : Nat} {c0 : Value} {t : TypeId} (h : SlV w v cs) (hb : Box w O #[c0] t) (hne : ∀ c ∈ cs, c ≠ c0) (hg : w.grownBy w' (some O)) : SlV w' v cs := by
  obtain ⟨a, cap, h1, h2, h3, h4, h5⟩ := h
  refine ⟨a, cap, h1, h2, h3, h4, fun hl => ?_⟩
  obtain ⟨b, off, e, hlt, hc⟩ := h5 hl
  have hbO : b ≠ O := by
    rintro rfl
    have h0 := hc 0 cs[0] (List.getElem?_eq_getElem hl)
    rw [hb.cell] at h0
    rcases Nat.eq_zero_or_pos (off + 0) with hz | hz
    · rw [hz] at h0
      have : c0 = cs[0] := by simpa using h0
      exact hne _ (List.getElem_mem hl) this.symm
    · rw [Array.getElem?_eq_none (by simp; omega)] at h0; cases h0
  exact ⟨b, off, e, Nat.lt_of_lt_of_le hlt hg.size, fun i c hi => hg.cell (hc i c hi) (by intro e; injection e with e; exact hbO e)⟩
theorem SlI.grownBox {w w' : World} {v : Value} {l : List Int} {O : Nat} {p : Option Addr} {n c : Nat} {t : TypeId} (h : SlI w v l) (hb : Box w O #[.slice p n c] t) (hg : w.grownBy w' (some O)) : SlI w' v l :=
  ⟨h.1, h.2.grownBox hb (fun c hc => by obtain ⟨x, _, rfl⟩ := List.mem_map.1 hc; intro e; cases e) hg⟩
theorem SlB.grownBox {w w' : World} {v : Value} {l : List Bool} {O : Nat} {p : Option Addr} {n c : Nat} {t : TypeId} (h : SlB w v l) (hb : Box w O #[.slice p n c] t) (hg : w.grownBy w' (some O)) : SlB w' v l :=
  SlV.grownBox h hb (fun c hc => by obtain ⟨x, _, rfl⟩ := List.mem_map.1 hc; intro e; cases e) hg
theorem Box.noTag {w : World} {O : Nat} {cs : Array Value} {t : TypeId} (hb : Box w O cs t) (ht : t ≠ 104) : ∀ g, some O = some g → ¬ Tag32 w g := by
  rintro g e ⟨cs', fz, h'⟩
  injection e with e
  subst e
  unfold Box at hb
  rw [hb] at h'
  injection h' with h'
  injection h' with _ h2
  exact ht h2
theorem IsR.grownBox {w w' : World} {v : Value} {R : Ro} {O : Nat} {p : Option Addr} {n c : Nat} {t : TypeId} (h : IsR w v R) (hb : Box w O #[.slice p n c] t) (ht : t ≠ 104) (hg : w.grownBy w' (some O)) : IsR w' v R := by
  obtain ⟨vh, vw, va, vb, vc, vd, e, h1, h2, h3, h4, h5, h6⟩ := h
  have hn := hb.noTag ht
  exact ⟨vh, vw, va, vb, vc, vd, e, h1.grownBox hb hg, h2.grownBox hb hg, h3.grown hg hn, h4.grown hg hn, h5.grown hg hn, h6.grown hg hn⟩
theorem grown_tr {a w w' : World} {row : Option Nat} (h : a.grownBy w row) (k : w.grownBy w' row) : a.grownBy w' row :=
  ⟨k.os.trans h.os, k.tape.trans h.tape, k.output.trans h.output, Nat.le_trans h.size k.size, fun b hb hne => (k.block b (Nat.lt_of_lt_of_le hb h.size) hne).trans (h.block b hb hne)⟩
theorem grown_but {a c : World} (h : a.grownBy c none) (row : Option Nat) : a.grownBy c row := ⟨h.os, h.tape, h.output, h.size, fun i hi _ => h.block i hi (by simp)⟩
theorem grown_below {W1 W W' : World} {row : Option Nat} (h : W1.grownBy W row) (hb : Below W.heap.size W W') : W1.grownBy W' row := grown_tr h (grown_but (grownBy_of_below hb) row)
/-- A change of a block that was not there at first. -/
theorem grown_new {W1 W W' : World} {row r2 : Option Nat} (h : W1.grownBy W row) (hg : W.grownBy W' r2) (hr : ∀ g, r2 = some g → W1.heap.size ≤ g) : W1.grownBy W' row :=
  ⟨hg.os.trans h.os, hg.tape.trans h.tape, hg.output.trans h.output, Nat.le_trans h.size hg.size, fun b hb hne =>
    (hg.block b (Nat.lt_of_lt_of_le hb h.size) (fun e => by have := hr b e.symm; omega)).trans (h.block b hb hne)⟩
theorem ownsRow_soft {W W' : World} {base n size l : Nat} {t : TypeId} {v : Value} {xs : List Value} (h : W.ownsRow base t size v n xs) (hs : Soft W l) (hg : W.grownBy W' (some l)) : W'.ownsRow base t size v n xs := by
  refine h.kept hg ?_
  rcases h.2 with ⟨rfl, _⟩ | ⟨g, cap, cur, rfl, _, hb, _⟩
  · exact .inl rfl
  · refine .inr ?_
    intro e
    simp [Value.ownBlock] at e
    exact hs.ne_box hb e
theorem grown_set (w : World) (O i : Nat) (u : Value) : w.grownBy (w.setCell ⟨O, i, none⟩ u) (some O) :=
  ⟨rfl, rfl, rfl, by simp [World.setCell], fun b _ hne => Below.heap_setCell w ⟨O, i, none⟩ u b (fun e => hne (by rw [e]))⟩
theorem ownsRow_ge {W : World} {base n size : Nat} {t : TypeId} {v : Value} {xs : List Value} (h : W.ownsRow base t size v n xs) : ∀ g, v.ownBlock = some g → base ≤ g ∧ ¬ Soft W g := by
  intro g hg
  rcases h.2 with ⟨rfl, _⟩ | ⟨g', cap, cur, rfl, hle, hb, _⟩
  · cases hg
  · obtain rfl : g' = g := by simpa [Value.ownBlock] using hg
    exact ⟨hle, fun hs => hs.ne_box hb rfl⟩
theorem ownsRow_shape {W : World} {base n size : Nat} {t : TypeId} {v : Value} {xs : List Value} (h : W.ownsRow base t size v n xs) : ∃ p c, v = .slice p n c := by
  rcases h.2 with ⟨rfl, h0⟩ | ⟨g', cap, cur, rfl, _⟩
  · exact ⟨none, 0, by rw [h0]⟩
  · exact ⟨_, _, rfl⟩
/-- Variable O collects ints in a row of its own, made since world W1; nothing else of W1 has turned. -/
def OutI (W1 : World) (O k : Nat) (l : List Int) (W : World) : Prop :=
  ∃ p n c, Box W O #[.slice p n c] 26 ∧ W.ownsRow W1.heap.size 3 1 (.slice p n c) k (l.map (Value.int .i64)) ∧ W1.grownBy W (some O)
theorem OutI.after {W1 W W' : World} {O k : Nat} {l : List Int} (h : OutI W1 O k l W) (hb : Below W.heap.size W W') : OutI W1 O k l W' := by
  obtain ⟨p, n, c, h1, h2, h3⟩ := h
  exact ⟨p, n, c, h1.after hb, ownsRow_after h2 hb, grown_below h3 hb⟩
theorem OutI.soft {W1 W W' : World} {O k s : Nat} {l : List Int} (h : OutI W1 O k l W) (hs : Soft W s) (hle : W1.heap.size ≤ s) (hg : W.grownBy W' (some s)) : OutI W1 O k l W' := by
  obtain ⟨p, n, c, h1, h2, h3⟩ := h
  exact ⟨p, n, c, h1.soft hs hg, ownsRow_soft h2 hs hg, grown_new h3 hg (fun g e => by injection e with e; omega)⟩
/-- One more: a new row behind an append, and the store of it. -/
theorem OutI.push {W1 w3 w5 : World} {O k : Nat} {l : List Int} {p : Option Addr} {n c : Nat} {z : Int} {v' : Value} {t : TypeId} (hO : O < W1.heap.size) (hbo : Box w3 O #[.slice p n c] 26) (hown : w3.ownsRow W1.heap.size 3 1 (.slice p n c) k (l.map (Value.int .i64))) (hg : W1.grownBy w3 (some O))
    (hown' : w5.ownsRow W1.heap.size 3 1 v' (k + 1) (l.map (Value.int .i64) ++ [.int .i64 z])) (hgr : (w3.alloc (.cells #[.int .i64 z] t)).grownBy w5 (Value.slice p n c).ownBlock) :
    Box w5 O #[.slice p n c] 26 ∧ OutI W1 O (k + 1) (l ++ [z]) (w5.setCell ⟨O, 0, none⟩ v') ∧ KeepSoft W1.heap.size w3 (w5.setCell ⟨O, 0, none⟩ v') := by
  have hge := ownsRow_ge (hown.alloc (.cells #[.int .i64 z] t))
  have hge' := ownsRow_ge hown'
  have b5 : Box w5 O #[.slice p n c] 26 := (hbo.alloc _).grown' hgr (by intro e; have := (hge O e.symm).1; omega)
  obtain ⟨p', c', rfl⟩ := ownsRow_shape hown'
  refine ⟨b5, ⟨p', _, c', by simpa using b5.set 0 (.slice p' (k + 1) c'), ?_, ?_⟩, ?_⟩
  · rw [List.map_append]
    refine hown'.kept (grown_set w5 O 0 _) ?_
    cases hb : (Value.slice p' (k + 1) c').ownBlock with
    | none => exact .inl rfl
    | some g => exact .inr (by intro e; injection e with e; have := (hge' g hb).1; omega)
  · exact grown_tr (grown_new (grown_tr hg (World.grownBy_alloc w3 _ (some O))) hgr (fun g e => (hge g e).1)) (grown_set w5 O 0 _)
  · exact (((KeepSoft.refl W1.heap.size w3).below (held_alloc (Below.refl _ w3))).grown hgr (fun g e => (hge g e).2)).setCell (b5.cell 0)
theorem cell_one {w : World} {u : Value} {t : TypeId} : ∀ j x, [u][j]? = some x → (w.alloc (.cells #[u] t)).cell? ((⟨w.heap.size, 0, none⟩ : Addr).add j) = some x := by
  intro j x hx
  match j, hx with
  | 0, hx =>
    obtain rfl : u = x := by simpa using hx
    exact (Box.new w #[u] t).cell 0
end Go.Proofs.Ytjjefdkadgkhfaa

namespace Go.Proofs.Ytjjefdkadgkhfaa
open Go.RowKit

/-- An element is told by its value itself. -/
def rdV (v : Value) : Option (DataW Value × List MemPlace) := some (.held v, [])
theorem mapLawI : Maps.Keyed Try.prog 3 := Maps.int_keyed Try.underlying3
theorem key_nat {k : Nat} (h : k ≤ 9223372036854775807) : keyOf Try.prog 3 (.int .i64 (k : Int)) = some (.int .i64 (k : Int)) := Maps.keyOf_int_mk Try.underlying3 (WalkArith.wf_i64 (by omega))
theorem zeroF (w : World) : (zeroValue 30).run Try.prog w = .ok (.agg #[.bool false, .slice none 0 0, .slice none 0 0]) w := by kernel_rfl
theorem ownsMap_isMap {w : World} {b n : Nat} {D : DataW Value} (h : w.ownsMap Try.prog 3 rdV b n D) : Maps.IsMap D := by
  obtain ⟨es, clock, _, _, _, rfl⟩ := h
  exact ⟨_, rfl⟩
theorem lit_nat {k k' : Nat} : (Lit.int .i64 (k : Int) = Lit.int .i64 (k' : Int)) ↔ k = k' := by
  constructor
  · intro h; injection h with _ h; omega
  · rintro rfl; rfl
/-- What the datum D says: key k bears f k. -/
def MapD (w : World) (D : DataW Value) (f : Nat → Option F) : Prop :=
  (∀ kl, Maps.has D kl = true → ∃ k : Nat, kl = .int .i64 (k : Int) ∧ (f k).isSome = true) ∧ (∀ k x, f k = some x → Maps.has D (.int .i64 (k : Int)) = true ∧ ∃ v, (∀ z, D.atKey (.int .i64 (k : Int)) z = .held v) ∧ IsF w v x)
theorem MapD.after {w w' : World} {D : DataW Value} {f : Nat → Option F} (h : MapD w D f) (hb : Below w.heap.size w w') : MapD w' D f :=
  ⟨h.1, fun k x hk => by obtain ⟨h1, v, h2, h3⟩ := h.2 k x hk; exact ⟨h1, v, h2, h3.after hb⟩⟩
theorem MapD.grown {w w' : World} {D : DataW Value} {f : Nat → Option F} {row : Option Nat} (h : MapD w D f) (hg : w.grownBy w' row) (hr : ∀ g, row = some g → ¬ Tag32 w g) : MapD w' D f :=
  ⟨h.1, fun k x hk => by obtain ⟨h1, v, h2, va, vb, e, h3, h4⟩ := h.2 k x hk; exact ⟨h1, v, h2, va, vb, e, h3.grown hg hr, h4.grown hg hr⟩⟩
theorem MapD.empty (w : World) : MapD w (.map []) (fun _ => none) := ⟨fun kl h => by simp [Maps.has] at h, fun k x h => by cases h⟩
/-- One entry more, or another one. -/
theorem MapD.put {w : World} {D : DataW Value} {f : Nat → Option F} {k : Nat} {v : Value} {x : F} (h : MapD w D f) (hm : Maps.IsMap D) (hv : IsF w v x) : MapD w (D.put (.int .i64 (k : Int)) (.held v)) (fun j => if j = k then some x else f j) := by
  have hk : Go.WideAt.IsKeyLit (.int .i64 (k : Int)) := trivial
  refine ⟨fun kl hh => ?_, fun j y hj => ?_⟩
  · by_cases he : kl = .int .i64 (k : Int)
    · exact ⟨k, he, by simp⟩
    · rw [Maps.has_put_other he] at hh
      obtain ⟨j, rfl, hj⟩ := h.1 kl hh
      refine ⟨j, rfl, ?_⟩
      show (if j = k then some x else f j).isSome = true
      rw [if_neg (fun e => he (by rw [e]))]
      exact hj
  · by_cases he : j = k
    · subst he
      simp only [if_true] at hj
      injection hj with hj
      subst hj
      exact ⟨Maps.has_put_same hm hk _, v, fun z => Maps.atKey_put_same hm hk _ z, hv⟩
    · simp only [he, if_false] at hj
      obtain ⟨h1, u, h2, h3⟩ := h.2 j y hj
      have hne : (Lit.int .i64 (j : Int)) ≠ .int .i64 (k : Int) := fun e => he (lit_nat.1 e)
      exact ⟨by rw [Maps.has_put_other hne]; exact h1, u, fun z => by rw [Maps.atKey_put_other hne]; exact h2 z, h3⟩
/-- Block M is a map of at most n entries: key k bears the fraction f k. -/
def MapF (w : World) (M n : Nat) (f : Nat → Option F) : Prop := ∃ D, w.ownsMap Try.prog 3 rdV M n D ∧ MapD w D f
theorem MapF.made (w : World) : MapF (w.alloc (.map #[] 0)) w.heap.size 0 (fun _ => none) := ⟨_, World.ownsMap_made w Try.prog 3 rdV, MapD.empty _⟩
theorem MapF.lt {w : World} {M n : Nat} {f : Nat → Option F} (h : MapF w M n f) : M < w.heap.size := by obtain ⟨D, h1, _⟩ := h; exact h1.lt
theorem MapF.after {w w' : World} {M n : Nat} {f : Nat → Option F} (h : MapF w M n f) (hb : Below w.heap.size w w') : MapF w' M n f := by
  obtain ⟨D, h1, h2⟩ := h
  exact ⟨D, h1.kept (grownBy_of_below hb) (by simp), h2.after hb⟩
theorem MapF.grown {w w' : World} {M n : Nat} {f : Nat → Option F} {row : Option Nat} (h : MapF w M n f) (hg : w.grownBy w' row) (hM : some M ≠ row) (hr : ∀ g, row = some g → ¬ Tag32 w g) : MapF w' M n f := by
  obtain ⟨D, h1, h2⟩ := h
  exact ⟨D, h1.kept hg hM, h2.grown hg hr⟩
theorem map_obj {w : World} {M n : Nat} {D : DataW Value} (h : w.ownsMap Try.prog 3 rdV M n D) : ∃ es c, w.heap[M]? = some (.map es c) := by
  obtain ⟨es, c, hb, _⟩ := h; exact ⟨es, c, hb⟩
theorem map_noTag {w : World} {M n : Nat} {D : DataW Value} (h : w.ownsMap Try.prog 3 rdV M n D) : ∀ g, some M = some g → ¬ Tag32 w g := by
  rintro g e ⟨cs, fz, h'⟩
  injection e with e
  subst e
  obtain ⟨es, c, hb⟩ := map_obj h
  rw [hb] at h'; cases h'
theorem map_notSoft {w : World} {M n : Nat} {D : DataW Value} (h : w.ownsMap Try.prog 3 rdV M n D) : ¬ Soft w M := by
  obtain ⟨es, c, hb⟩ := map_obj h
  rintro (⟨L, h'⟩ | ⟨d, h'⟩) <;> rw [hb] at h' <;> cases h'
/-- A cell is kept where only a map has turned. -/
theorem map_cell {w w' : World} {M n b o : Nat} {D : DataW Value} {v : Value} (h : w.ownsMap Try.prog 3 rdV M n D) (hg : w.grownBy w' (some M)) (hc : w.cell? ⟨b, o, none⟩ = some v) : w'.cell? ⟨b, o, none⟩ = some v := by
  refine hg.cell hc ?_
  intro e
  injection e with e
  simp only at e
  subst e
  obtain ⟨es, c, hb⟩ := map_obj h
  simp [World.cell?, hb] at hc
theorem map_box {w w' : World} {M n b : Nat} {D : DataW Value} {cs : Array Value} {t : TypeId} (h : w.ownsMap Try.prog 3 rdV M n D) (hg : w.grownBy w' (some M)) (hb : Box w b cs t) : Box w' b cs t := by
  refine hb.grown' hg ?_
  intro e
  injection e with e
  subst e
  obtain ⟨es, c, h'⟩ := map_obj h
  unfold Box at hb
  rw [hb] at h'; cases h'
/-- The value of no fraction. -/
def noF : Value := .agg #[.bool false, .slice none 0 0, .slice none 0 0]
theorem MapF.look_yes {w : World} {M n k : Nat} {f : Nat → Option F} {x : F} (h : MapF w M n f) (hk : k ≤ 9223372036854775807) (hf : f k = some x) : ∃ v, (Instr.lookup 72 (.map (some M)) (.int .i64 (k : Int)) true).run Try.prog w = .ok (.tuple #[v, .bool true]) w ∧ IsF w v x := by
  obtain ⟨D, h1, h2⟩ := h
  obtain ⟨v, ps, hrun, hv⟩ := h1.look_ok mapLawI Try.underlying72 (zeroF w) (zd := .held noF) (zp := []) rfl (key_nat hk)
  obtain ⟨g1, u, g2, g3⟩ := h2.2 k x hf
  rw [g1] at hrun
  rw [g2] at hv
  unfold rdV at hv
  injection hv with hv
  injection hv with hv _
  injection hv with hv
  exact ⟨v, hrun, by rw [hv]; exact g3⟩
theorem MapF.look_no {w : World} {M n k : Nat} {f : Nat → Option F} (h : MapF w M n f) (hk : k ≤ 9223372036854775807) (hf : f k = none) : (Instr.lookup 72 (.map (some M)) (.int .i64 (k : Int)) true).run Try.prog w = .ok (.tuple #[.agg #[.bool false, .slice none 0 0, .slice none 0 0], .bool false]) w := by
  obtain ⟨D, h1, h2⟩ := h
  obtain ⟨v, ps, hrun, hv⟩ := h1.look_ok mapLawI Try.underlying72 (zeroF w) (zd := .held noF) (zp := []) rfl (key_nat hk)
  have hno : Maps.has D (.int .i64 (k : Int)) = false := by
    cases hh : Maps.has D (.int .i64 (k : Int)) with
    | false => rfl
    | true =>
      obtain ⟨j, e, hj⟩ := h2.1 _ hh
      have := lit_nat.1 e
      subst this
      rw [hf] at hj; cases hj
  rw [hno] at hrun
  rw [Maps.atKey_of_not_has hno] at hv
  unfold rdV at hv
  have hv : v = noF := DataW.held.inj (congrArg Prod.fst (Option.some.inj hv))
  rw [hrun, hv]
  unfold noF
  exact rfl
/-- What a store leaves. -/
theorem MapF.put {w w' : World} {M n k : Nat} {f : Nat → Option F} {D : DataW Value} {v : Value} {x : F} (h : w.ownsMap Try.prog 3 rdV M n D) (hd : MapD w D f) (hv : IsF w v x)
    (h' : w'.ownsMap Try.prog 3 rdV M (n + 1) (D.put (.int .i64 (k : Int)) (.held v))) (hg : w.grownBy w' (some M)) : MapF w' M (n + 1) (fun j => if j = k then some x else f j) :=
  ⟨_, h', (hd.put (ownsMap_isMap h) hv).grown hg (map_noTag h)⟩
end Go.Proofs.Ytjjefdkadgkhfaa

namespace Go.Proofs.Ytjjefdkadgkhfaa

open Classical in
/-- With fewer failures than this the rollout goes on at n hosts. -/
noncomputable def mOf (R : Ro) (n : Nat) : Nat := if h : ∃ m, m ≤ n + 1 ∧ ∀ k : Nat, GoB R n k ↔ k < m then Classical.choose h else 0
theorem mOf_eq {R : Ro} {n m : Nat} (hm : m ≤ n + 1) (hg : ∀ k : Nat, GoB R n k ↔ k < m) : mOf R n = m := by
  have h : ∃ m, m ≤ n + 1 ∧ ∀ k : Nat, GoB R n k ↔ k < m := ⟨m, hm, hg⟩
  unfold mOf
  rw [dif_pos h]
  have hc := (Classical.choose_spec h).2
  rcases Nat.lt_trichotomy (Classical.choose h) m with h1 | h1 | h1
  · have := (hc (Classical.choose h)).1 ((hg _).2 h1); omega
  · exact h1
  · have := (hg m).1 ((hc m).2 h1); omega
/-- The first r entries of what Allowed returns. -/
noncomputable def allowedL (R : Ro) (r : Nat) : List Int := (List.range r).map fun j => (mOf R (cum R (j + 1)) : Int) - 1
theorem allowedL_succ (R : Ro) (r : Nat) : allowedL R (r + 1) = allowedL R r ++ [(mOf R (cum R (r + 1)) : Int) - 1] := by
  unfold allowedL; rw [List.range_succ, List.map_append]; rfl
theorem allowedL_len (R : Ro) (r : Nat) : (allowedL R r).length = r := by unfold allowedL; simp
open Classical in
/-- What Allowed returns. -/
noncomputable def allowedF (R : Ro) : List Int × Int := if ValidR R then (allowedL R R.waves.length, 0) else ([], 1)
theorem waves_le {R : Ro} (h : ValidR R) : R.waves.length ≤ 16 := by
  have h1 := sum_pos h.2.2.2.2.1
  rw [h.2.2.2.2.2.1] at h1
  have := h.2.1
  omega
/-- Where a valid rollout stops going on. -/
theorem goB_mOf {R : Ro} (h : ValidR R) {n : Nat} (hn : n ≤ 16) : mOf R n ≤ n + 1 ∧ ∀ k : Nat, GoB R n k ↔ k < mOf R n := by
  obtain ⟨a, b, x, y, e1, h1, h2, h3, h4, e2, h5, h6, hg⟩ := validR_fr h
  have hex : ∃ m, m ≤ n + 1 ∧ ∀ k : Nat, GoB R n k ↔ k < m := by
    by_cases h0 : ∃ k, Abv n a (b - a) x y k
    · classical
      have hle : ∀ k, Abv n a (b - a) x y k → k ≤ n := fun k hk => abv_le hk
      -- the greatest of them
      obtain ⟨k, hk, hmax⟩ : ∃ k, Abv n a (b - a) x y k ∧ ∀ j, Abv n a (b - a) x y j → j ≤ k := by
        have : ∀ d, (∃ k, Abv n a (b - a) x y k ∧ n - k ≤ d) → ∃ k, Abv n a (b - a) x y k ∧ ∀ j, Abv n a (b - a) x y j → j ≤ k := by
          intro d
          induction d with
          | zero =>
            rintro ⟨k, hk, hd⟩
            exact ⟨k, hk, fun j hj => by have := hle j hj; omega⟩
          | succ d ih =>
            rintro ⟨k, hk, hd⟩
            by_cases hm : ∀ j, Abv n a (b - a) x y j → j ≤ k
            · exact ⟨k, hk, hm⟩
            · have : ∃ j, ¬ (Abv n a (b - a) x y j → j ≤ k) := Classical.not_forall.1 hm
              obtain ⟨j, hj⟩ := this
              have hj1 : Abv n a (b - a) x y j := Classical.byContradiction fun hh => hj (fun h => absurd h hh)
              have hj2 : ¬ j ≤ k := fun hh => hj (fun _ => hh)
              exact ih ⟨j, hj1, by have := hle j hj1; omega⟩
        obtain ⟨k, hk⟩ := h0
        exact this n ⟨k, hk, by omega⟩
      refine ⟨k + 1, by have := hle k hk; omega, fun j => ?_⟩
      rw [hg]
      exact ⟨fun hj => by have := hmax j hj; omega, fun hj => abv_anti (by omega) hk⟩
    · exact ⟨0, by omega, fun k => by rw [hg]; exact ⟨fun hk => absurd ⟨k, hk⟩ h0, fun hk => by omega⟩⟩
  obtain ⟨m, hm, hk⟩ := hex
  rw [mOf_eq hm hk]
  exact ⟨hm, hk⟩
end Go.Proofs.Ytjjefdkadgkhfaa
