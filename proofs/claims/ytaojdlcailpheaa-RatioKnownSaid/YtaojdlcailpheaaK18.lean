/- Walks of the reference's tails: choose.
   Walks of the reference's tails: Choose, numerator, tail.
   Walks of the reference's tails: Exactly, Tail.
   Walks of the reference's tails: above, Critical.
   Canary, plain: which rollouts are valid, and what is decided at their boundaries.
   Walks of package canary: the boundaries of a rollout, yielded one by one.
   Memory words, more: a variable that collects ints; what lies elsewhere is kept.
   Memory words, more: a map from ints to fractions.
   Memory words, more: what is kept where a set of blocks may turn.
   Canary, plain: what Allowed returns. -/
import Derived.Test.YtaojdlcailpheaaK11
import Derived.Test.YtaojdlcailpheaaK15
import Derived.Test.YtaojdlcailpheaaK17
import Derived.Test.YtaojdlcailpheaaK13
import Derived.TacticsIn
import Derived.BigFrameIn
import Derived.OwnWalkIn
import Derived.TacticsInMore
import Derived.LoopNIn
import Derived.LoopIn
import Derived.Maps.Own
import Derived.Maps.OwnSet
import Derived.Maps.Views
set_option linter.unusedVariables false
namespace Go.Proofs.Ytaojdlcailpheaa
open Go.RowKit

theorem rsum_n (w : World) (va vb : Value) (a b : Nat) (h : Sl w va (limbs a)) (k : Sl w vb (limbs b)) (ha : (limbs a).length ≤ 1000000) (hb : (limbs b).length ≤ 1000000) :
    Calls Try.prog 78 #[va, vb] w (RetNat w (a + b)) := by
  have := Sum_c w va vb _ _ h k ha hb; rwa [val_limbs, val_limbs] at this

theorem lit_one (w : World) : Sl (w.alloc (.cells #[.int .u32 1] 51)) (.slice (some ⟨w.heap.size, 0, none⟩) 1 1) (limbs 1) := by
  rw [limbs_one]
  exact Sl.of_row (l := [1]) (Row32.lit1 w 1 1 rfl) (Lb.cons (by omega) Lb.nil) (by simp) (by omega)
theorem ownsRow_le {w : World} {base b n size : Nat} {t : TypeId} {v : Value} {xs : List Value} (h : w.ownsRow base t size v n xs) (hb : b ≤ base) : w.ownsRow b t size v n xs := by
  refine ⟨h.1, ?_⟩
  rcases h.2 with h1 | ⟨g, cap, cur, h1, h2, h3⟩
  · exact .inl h1
  · exact .inr ⟨g, cap, cur, h1, Nat.le_trans hb h2, h3⟩
/-- A row of one number 1. -/
theorem lit_row (w : World) (base : Nat) (hb : base ≤ w.heap.size) (i : Nat) : ((w.alloc (.cells #[.int .u32 1] 51)).alloc (.cells #[.slice (some ⟨w.heap.size, 0, none⟩) 1 1] 23)).ownsRow base 23 1 (.slice (some ⟨w.heap.size + 1, 0, none⟩) 1 1) 1 [.slice (some ⟨w.heap.size, 0, none⟩) 1 1] ∧
    EntsN ((w.alloc (.cells #[.int .u32 1] 51)).alloc (.cells #[.slice (some ⟨w.heap.size, 0, none⟩) 1 1] 23)) [.slice (some ⟨w.heap.size, 0, none⟩) 1 1] (pasc i 1) := by
  constructor
  · have := ownsRow_one1 (w.alloc (.cells #[.int .u32 1] 51)) (base := base) 23 (by simp; omega) (.slice (some ⟨w.heap.size, 0, none⟩) 1 1)
    simpa using this
  · rw [pasc_one]
    exact ((EntsN.nil _).snoc (lit_one w)).after ((Below.refl _ _).alloc (Nat.le_refl _) _)

end Go.Proofs.Ytaojdlcailpheaa

namespace Go.Proofs.Ytaojdlcailpheaa
open Go.RowKit

theorem rdiff_n (w : World) (va vb : Value) (a b : Nat) (h : Sl w va (limbs a)) (k : Sl w vb (limbs b)) (hle : b ≤ a) (ha : (limbs a).length ≤ 1000000) :
    Calls Try.prog 99 #[va, vb] w (RetNat w (a - b)) := by
  have := Diff_c w va vb _ _ h k (limbs_len_mono hle) (by rw [val_limbs, val_limbs]; exact hle) ha; rwa [val_limbs, val_limbs] at this
theorem limbs_1000 {a : Nat} (h : a ≤ 1000) : (limbs a).length ≤ 1 := limbs_len_lt (by omega)

theorem ex_limbs {a b n k : Nat} (hab : a ≤ b) (hb1 : b ≤ 1000) (hn : n ≤ 64) : (limbs (ex a (b - a) n k)).length ≤ 20 :=
  Nat.le_trans (limbs_len_mono (ex_all_le a (b - a) n k)) (pow_limbs (by omega) hn)
theorem tl_limbs {a b n k : Nat} (hab : a ≤ b) (hb1 : b ≤ 1000) (hn : n ≤ 64) : (limbs (tl a (b - a) n k)).length ≤ 20 :=
  Nat.le_trans (limbs_len_mono (tl_all_le a (b - a) n k)) (pow_limbs (by omega) hn)

end Go.Proofs.Ytaojdlcailpheaa

namespace Go.Proofs.Ytaojdlcailpheaa
open Go.RowKit

theorem checkE_bad {x : F} {g : Bool} (h : rateE x ≠ 0) : checkE x g = rateE x := by unfold checkE; rw [if_neg h]
theorem checkE_false {x : F} (h : rateE x = 0) : checkE x false = 2 := by unfold checkE; rw [if_pos h, if_neg (by simp)]
theorem checkE_true {x : F} (h : rateE x = 0) : checkE x true = 0 := by unfold checkE; rw [if_pos h, if_pos rfl]
/-- The result left as it was made: nothing, with an error. -/
theorem retF_zero {w w1 : World} {R : Nat} {r : Int} {t : TypeId} (hb : Below w.heap.size w w1) (hle : w.heap.size ≤ R) (_ : Box w1 R #[.bool false, .slice none 0 0, .slice none 0 0] t) :
    RetF w (F0, r) (.returned (.tuple #[.agg #[.bool false, .slice none 0 0, .slice none 0 0], .int .i64 r])) (((w1.setCell ⟨R, 0, none⟩ (.bool false)).setCell ⟨R, 1, none⟩ (.slice none 0 0)).setCell ⟨R, 2, none⟩ (.slice none 0 0)) :=
  ⟨_, rfl, IsF.zero _, ((hb.setCell (p := ⟨R, 0, none⟩) hle _).setCell (p := ⟨R, 1, none⟩) hle _).setCell (p := ⟨R, 2, none⟩) hle _⟩
end Go.Proofs.Ytaojdlcailpheaa

namespace Go.Proofs.Ytaojdlcailpheaa
open Go.RowKit

/-- The error that Critical returns where it returns one. -/
def critErr (r s : Int) : Int := if r = 1 ∨ s = 1 then 1 else 2

theorem abv_le {n a c x y k : Nat} (h : Abv n a c x y k) : k ≤ n := by
  rcases Nat.lt_or_ge n k with h1 | h1
  · unfold Abv at h; rw [tl_gt h1, Nat.zero_mul] at h; omega
  · exact h1
theorem abv_anti {n a c x y i j : Nat} (h : i ≤ j) (hj : Abv n a c x y j) : Abv n a c x y i :=
  Nat.lt_of_lt_of_le hj (Nat.mul_le_mul_right y (tl_anti' a c n h))
theorem critR_first {n a c x y i : Nat} (h1 : ∀ j, j < i → Abv n a c x y j) (h2 : ¬ Abv n a c x y i) : CritR n a c x y i := by
  cases i with
  | zero => exact .inr ⟨fun j _ hj => h2 (abv_anti (Nat.zero_le _) hj), rfl⟩
  | succ i => exact .inl ⟨i, abv_le (h1 i (by omega)), h1 i (by omega), fun j hj _ hA => h2 (abv_anti hj hA), rfl⟩
theorem critR_uniq {n a c x y r s : Nat} (h1 : CritR n a c x y r) (h2 : CritR n a c x y s) : r = s := by
  rcases h1 with ⟨k, hk, ha, hn, rfl⟩ | ⟨hn, rfl⟩ <;> rcases h2 with ⟨l, hl, hb, hm, rfl⟩ | ⟨hm, rfl⟩
  · rcases Nat.lt_trichotomy k l with h | h | h
    · exact absurd hb (hn l h hl)
    · rw [h]
    · exact absurd ha (hm k h hk)
  · exact absurd ha (hm k hk)
  · exact absurd hb (hn l hl)
  · rfl

theorem critF_uniq {n : Int} {X Y : F} {r s : Int × Int} (h1 : critF n X Y r) (h2 : critF n X Y s) : r = s := by
  unfold critF at h1 h2
  split at h1
  · rename_i hc
    rw [if_pos hc] at h2
    obtain ⟨m, rfl, hm⟩ := h1
    obtain ⟨l, rfl, hl⟩ := h2
    rw [critR_uniq hm hl]
  · rename_i hc
    rw [if_neg hc] at h2
    rw [h1, h2]
end Go.Proofs.Ytaojdlcailpheaa

namespace Go.Proofs.Ytaojdlcailpheaa

theorem take_succ_ati {l : List Int} {k : Nat} (h : k < l.length) : l.take (k + 1) = l.take k ++ [ati l k] := by
  rw [List.take_succ_eq_append_getElem h, ati_get h]
theorem take_succ_atb {l : List Bool} {k : Nat} (h : k < l.length) : l.take (k + 1) = l.take k ++ [atb l k] := by
  rw [List.take_succ_eq_append_getElem h, atb_get h]
theorem drop_ati {l : List Int} {k : Nat} (h : k < l.length) : l.drop k = ati l k :: l.drop (k + 1) := by
  rw [List.drop_eq_getElem_cons h, ati_get h]
theorem sum_succ {l : List Int} {k : Nat} (h : k < l.length) : (l.take (k + 1)).sum = (l.take k).sum + ati l k := by
  rw [take_succ_ati h]; simp
theorem count_succ {l : List Bool} {k : Nat} (h : k < l.length) : (l.take (k + 1)).count true = (l.take k).count true + if atb l k = true then 1 else 0 := by
  rw [take_succ_atb h, List.count_append]
  cases atb l k <;> rfl
theorem sum_pos : ∀ {l : List Int}, (∀ z ∈ l, 1 ≤ z) → (l.length : Int) ≤ l.sum
  | [], _ => by simp
  | z :: l, h => by
    have := sum_pos (l := l) fun y hy => h y (List.mem_cons_of_mem _ hy)
    have := h z (List.mem_cons_self ..)
    simp only [List.length_cons, List.sum_cons]; omega
theorem sum_take_le {l : List Int} (h : ∀ z ∈ l, 1 ≤ z) (k : Nat) : (l.take k).sum ≤ l.sum := by
  have e : l.sum = (l.take k).sum + (l.drop k).sum := by rw [← List.sum_append, List.take_append_drop]
  have := sum_pos (l := l.drop k) fun z hz => h z (List.mem_of_mem_drop hz)
  omega
theorem sum_take_pos {l : List Int} (h : ∀ z ∈ l, 1 ≤ z) (k : Nat) : 0 ≤ (l.take k).sum := by
  have := sum_pos (l := l.take k) fun z hz => h z (List.mem_of_mem_take hz)
  omega
/-- Which rollouts are valid. -/
def ValidR (R : Ro) : Prop := 1 ≤ R.hosts.length ∧ R.hosts.length ≤ 16 ∧ (∀ z ∈ R.hosts, 0 ≤ z ∧ z ≤ 15) ∧ R.hosts.Nodup ∧ (∀ z ∈ R.waves, 1 ≤ z) ∧ R.waves.sum = R.hosts.length ∧ rateE R.rate = 0 ∧ fracE R.bound = 0
/-- The first k hosts are no reason to refuse. -/
def HostsOk (R : Ro) (k : Nat) : Prop := (∀ z ∈ R.hosts.take k, 0 ≤ z ∧ z ≤ 15) ∧ (R.hosts.take k).Nodup
theorem hostsOk_zero (R : Ro) : HostsOk R 0 := by unfold HostsOk; simp
theorem hostsOk_succ {R : Ro} {k : Nat} (h : HostsOk R k) (hk : k < R.hosts.length) (h0 : 0 ≤ ati R.hosts k) (h1 : ati R.hosts k ≤ 15) (h2 : ati R.hosts k ∉ R.hosts.take k) : HostsOk R (k + 1) := by
  unfold HostsOk at *
  rw [take_succ_ati hk]
  refine ⟨fun z hz => ?_, ?_⟩
  · rcases List.mem_append.1 hz with hz | hz
    · exact h.1 z hz
    · rw [List.mem_singleton] at hz; rw [hz]; exact ⟨h0, h1⟩
  · rw [List.nodup_append]
    refine ⟨h.2, by simp, fun a ha b hb => ?_⟩
    rw [List.mem_singleton] at hb
    rw [hb]; rintro rfl; exact h2 ha
theorem hosts_range {R : Ro} {k : Nat} (hk : k < R.hosts.length) (h : ¬ (0 ≤ ati R.hosts k ∧ ati R.hosts k ≤ 15)) : ¬ ValidR R := fun hv => h (hv.2.2.1 _ (ati_mem hk))
theorem hosts_twice {R : Ro} {k : Nat} (hk : k < R.hosts.length) (h : ati R.hosts k ∈ R.hosts.take k) : ¬ ValidR R := fun hv => by
  have hn := hv.2.2.2.1
  rw [← List.take_append_drop k R.hosts, List.nodup_append] at hn
  exact hn.2.2 _ h _ (by rw [drop_ati hk]; exact List.mem_cons_self ..) rfl
/-- The first k waves are no reason to refuse. -/
def WavesOk (R : Ro) (k : Nat) : Prop := ∀ z ∈ R.waves.take k, 1 ≤ z
theorem wavesOk_zero (R : Ro) : WavesOk R 0 := by unfold WavesOk; simp
theorem wavesOk_succ {R : Ro} {k : Nat} (h : WavesOk R k) (hk : k < R.waves.length) (h1 : 1 ≤ ati R.waves k) : WavesOk R (k + 1) := by
  unfold WavesOk at *
  rw [take_succ_ati hk]
  intro z hz
  rcases List.mem_append.1 hz with hz | hz
  · exact h z hz
  · rw [List.mem_singleton] at hz; rw [hz]; exact h1
theorem wave_low {R : Ro} {k : Nat} (hk : k < R.waves.length) (h : ¬ 1 ≤ ati R.waves k) : ¬ ValidR R := fun hv => h (hv.2.2.2.2.1 _ (ati_mem hk))
theorem wave_high {R : Ro} {k : Nat} (hk : k < R.waves.length) (h : (R.hosts.length : Int) < (R.waves.take k).sum + ati R.waves k) : ¬ ValidR R := fun hv => by
  have := sum_take_le hv.2.2.2.2.1 (k + 1)
  rw [sum_succ hk, hv.2.2.2.2.2.1] at this
  omega
theorem wave_big {R : Ro} {k : Nat} (hk : k < R.waves.length) (h : 16 < ati R.waves k) : ¬ ValidR R := fun hv => by
  have h1 := sum_take_pos hv.2.2.2.2.1 k
  have h2 := hv.2.1
  exact wave_high hk (by omega) hv
theorem validR_all {R : Ro} (h1 : 1 ≤ R.hosts.length) (h2 : R.hosts.length ≤ 16) (h3 : HostsOk R R.hosts.length) (h4 : WavesOk R R.waves.length) (h5 : R.waves.sum = R.hosts.length) (h6 : rateE R.rate = 0) (h7 : fracE R.bound = 0) : ValidR R := by
  unfold HostsOk at h3; unfold WavesOk at h4
  rw [List.take_length] at h3 h4
  exact ⟨h1, h2, h3.1, h3.2, h4, h5, h6, h7⟩
/-- How many hosts are done behind r waves. -/
def cum (R : Ro) (r : Nat) : Nat := (R.waves.take r).sum.toNat
theorem cum_zero (R : Ro) : cum R 0 = 0 := by unfold cum; simp
theorem cum_int {R : Ro} (h : ValidR R) (r : Nat) : ((cum R r : Nat) : Int) = (R.waves.take r).sum := by
  unfold cum; have := sum_take_pos h.2.2.2.2.1 r; omega
theorem cum_succ {R : Ro} (h : ValidR R) {r : Nat} (hr : r < R.waves.length) : cum R (r + 1) = cum R r + (ati R.waves r).toNat ∧ 1 ≤ ati R.waves r ∧ ((cum R r : Nat) : Int) + ati R.waves r = (cum R (r + 1) : Nat) := by
  have h1 := cum_int h r
  have h2 := cum_int h (r + 1)
  rw [sum_succ hr] at h2
  have h3 := h.2.2.2.2.1 _ (ati_mem hr)
  refine ⟨by omega, h3, by omega⟩
theorem cum_le {R : Ro} (h : ValidR R) (r : Nat) : cum R r ≤ R.hosts.length := by
  have h1 := cum_int h r
  have h2 := sum_take_le h.2.2.2.2.1 r
  rw [h.2.2.2.2.2.1] at h2
  omega
theorem cum_last {R : Ro} (h : ValidR R) : cum R R.waves.length = R.hosts.length := by
  have h1 := cum_int h R.waves.length
  rw [List.take_length, h.2.2.2.2.2.1] at h1
  omega
/-- The rollout goes on at n hosts with k failures. -/
def GoB (R : Ro) (n k : Nat) : Prop := Abv n (val R.rate.num) (val R.rate.den - val R.rate.num) (val R.bound.num) (val R.bound.den) k
/-- A decision: its kind, its hosts. -/
structure Dec where
  kind : Nat
  hosts : List Int
/-- How many of the first n failed. -/
def failsN (l : List Bool) (n : Nat) : Nat := (l.take n).count true
/-- The hosts of the wave from n to m. -/
def hostsOf (R : Ro) (n m : Nat) : List Int := (R.hosts.take m).drop n
open Classical in
/-- What Next decides from wave r on. -/
noncomputable def nextW (R : Ro) (failed : List Bool) (r : Nat) : Nat → Dec × Int
  | 0 => (⟨3, []⟩, 0)
  | fuel + 1 =>
    if failed.length = cum R r then (⟨1, hostsOf R (cum R r) (cum R (r + 1))⟩, 0)
    else if failed.length < cum R (r + 1) then (⟨0, []⟩, 8)
    else if GoB R (cum R (r + 1)) (failsN failed (cum R (r + 1))) then nextW R failed (r + 1) fuel
    else if cum R (r + 1) < failed.length then (⟨0, []⟩, 8) else (⟨2, []⟩, 0)
open Classical in
/-- What Next returns. -/
noncomputable def nextF (R : Ro) (failed : List Bool) : Dec × Int :=
  if ValidR R then (if R.hosts.length < failed.length then (⟨0, []⟩, 2) else nextW R failed 0 R.waves.length) else (⟨0, []⟩, 1)
theorem failsN_le (l : List Bool) (n : Nat) : failsN l n ≤ n := by
  unfold failsN
  exact Nat.le_trans List.count_le_length (by rw [List.length_take]; omega)
theorem rateE_zero_frac {x : F} (h : rateE x = 0) : fracE x = 0 := by
  rcases fracE_cases x with h0 | h0
  · exact h0
  · have hne : fracE x ≠ 0 := by omega
    rw [rateE_bad hne] at h
    exact h
/-- What is known of a valid rollout's fractions. -/
theorem validR_fr {R : Ro} (h : ValidR R) : ∃ a b x y, R.rate = fr false a b ∧ a ≤ b ∧ 0 < b ∧ b ≤ 1000 ∧ Ok false a b ∧ R.bound = fr false x y ∧ Ok false x y ∧ x ≤ y ∧ ∀ n k, GoB R n k ↔ Abv n a (b - a) x y k := by
  obtain ⟨a, b, e1, h1, h2, h3, e2, e3⟩ := rate_fr h.2.2.2.2.2.2.1
  obtain ⟨x, y, e4, h4, h5, e6, e7⟩ := frac_fr h.2.2.2.2.2.2.2
  refine ⟨a, b, x, y, e1, h1, h2, h3, ?_, e4, h4, h5, fun n k => ?_⟩
  · have := (fracE_zero (rateE_zero_frac h.2.2.2.2.2.2.1)).1
    rw [e1] at this
    exact validF_fr.1 this
  · unfold GoB; rw [e2, e3, e6, e7]
/-- What Critical says of a valid rollout: with how many failures it goes on. -/
theorem crit_goB {R : Ro} (h : ValidR R) {n : Nat} (hn : n ≤ 16) {r : Int × Int} (hr : critF (n : Int) R.rate R.bound r) : ∃ m : Nat, r = ((m : Int), 0) ∧ m ≤ n + 1 ∧ ∀ k : Nat, GoB R n k ↔ k < m := by
  obtain ⟨a, b, x, y, e1, h1, h2, h3, h4, e2, h5, h6, hg⟩ := validR_fr h
  rw [e1, e2] at hr
  unfold critF at hr
  have ht : trialsB (n : Int) 0 0 = true := trialsB_iff.2 ⟨by omega, by omega, by omega, by omega⟩
  have hr0 : rateE (fr false a b) = 0 := by rw [← e1]; exact h.2.2.2.2.2.2.1
  have hf0 : fracE (fr false x y) = 0 := by rw [← e2]; exact h.2.2.2.2.2.2.2
  rw [ht, if_pos ⟨checkE_true hr0, hf0⟩] at hr
  obtain ⟨m, hm, hc⟩ := hr
  change CritR _ (val (limbs a)) (val (limbs b) - val (limbs a)) (val (limbs x)) (val (limbs y)) m at hc
  rw [val_limbs, val_limbs, val_limbs, val_limbs, Int.toNat_natCast] at hc
  refine ⟨m, hm, ?_, fun k => ?_⟩
  · rcases hc with ⟨k, hk, _, _, rfl⟩ | ⟨_, rfl⟩ <;> omega
  · rw [hg]
    rcases hc with ⟨k0, hk, ha, hn', rfl⟩ | ⟨hn', rfl⟩
    · constructor
      · intro hA
        rcases Nat.lt_or_ge k (k0 + 1) with hh | hh
        · exact hh
        · exact absurd hA (hn' k (by omega) (abv_le hA))
      · intro hlt
        exact abv_anti (by omega) ha
    · constructor
      · intro hA; exact absurd hA (hn' k (abv_le hA))
      · intro hlt; omega
end Go.Proofs.Ytaojdlcailpheaa

namespace Go.Proofs.Ytaojdlcailpheaa
open Go.RowKit

/-- The eight cells of a rollout. -/
def roCells (R : Ro) (p0 p1 p2 p3 p4 p5 : Option Addr) (k0 k1 k2 k3 k4 k5 : Nat) : Array Value := #[.slice p0 R.hosts.length k0, .slice p1 R.waves.length k1, .bool R.rate.neg, .slice p2 R.rate.num.length k2, .slice p3 R.rate.den.length k3, .bool R.bound.neg, .slice p4 R.bound.num.length k4, .slice p5 R.bound.den.length k5]
/-- What is yielded at boundary r. -/
def BndV (R : Ro) (r : Nat) (args : Array Value) (W : World) : Prop := ∃ (m : Nat) (a : Option Addr) (c : Nat), args = #[.int .i64 (r : Int), .agg #[.int .i64 ((cum R (r + 1) : Nat) : Int), .int .i64 ((m : Int) - 1), .slice a (hostsOf R (cum R r) (cum R (r + 1))).length c]] ∧
  m ≤ cum R (r + 1) + 1 ∧ (∀ k : Nat, GoB R (cum R (r + 1)) k ↔ k < m) ∧ SlI W (.slice a (hostsOf R (cum R r) (cum R (r + 1))).length c) (hostsOf R (cum R r) (cum R (r + 1)))
theorem hostsOf_len {R : Ro} (h : ValidR R) {r : Nat} (hr : r < R.waves.length) : (hostsOf R (cum R r) (cum R (r + 1))).length = cum R (r + 1) - cum R r := by
  unfold hostsOf
  have := cum_le h (r + 1)
  simp; omega

end Go.Proofs.Ytaojdlcailpheaa

namespace Go.Proofs.Ytaojdlcailpheaa
open Go.RowKit

theorem Box.grown' {w w' : World} {b : Nat} {cs : Array Value} {t : TypeId} {row : Option Nat} (h : Box w b cs t) (hg : w.grownBy w' row) (hb : some b ≠ row) : Box w' b cs t := (hg.block b h.lt hb).trans h
theorem SlV.grownBox {w w' : World} {v : Value} {cs : List Value} {O : Nat} {c0 : Value} {t : TypeId} (h : SlV w v cs) (hb : Box w O #[c0] t) (hne : ∀ c ∈ cs, c ≠ c0) (hg : w.grownBy w' (some O)) : SlV w' v cs := by
  obtain ⟨a, cap, h1, h2, h3, h4, h5⟩ := h
  refine ⟨a, cap, h1, h2, h3, h4, fun hl => ?_⟩
  obtain ⟨b, off, e, hlt, hc⟩ := h5 hl
  have hbO : b ≠ O := by
    rintro rfl
    have h0 := hc 0 cs[0] (List.getElem?_eq_getElem hl)
    rw [hb.cell] at h0
    rcases Nat.eq_zero_or_pos (off + 0) with hz | hz
    · rw [hz] at h0
      have : c0 = cs[0] := by simpa using h0
      exact hne _ (List.getElem_mem hl) this.symm
    · rw [Array.getElem?_eq_none (by simp; omega)] at h0; cases h0
  exact ⟨b, off, e, Nat.lt_of_lt_of_le hlt hg.size, fun i c hi => hg.cell (hc i c hi) (by intro e; injection e with e; exact hbO e)⟩
theorem SlI.grownBox {w w' : World} {v : Value} {l : List Int} {O : Nat} {p : Option Addr} {n c : Nat} {t : TypeId} (h : SlI w v l) (hb : Box w O #[.slice p n c] t) (hg : w.grownBy w' (some O)) : SlI w' v l :=
  ⟨h.1, h.2.grownBox hb (fun c hc => by obtain ⟨x, _, rfl⟩ := List.mem_map.1 hc; intro e; cases e) hg⟩
theorem SlB.grownBox {w w' : World} {v : Value} {l : List Bool} {O : Nat} {p : Option Addr} {n c : Nat} {t : TypeId} (h : SlB w v l) (hb : Box w O #[.slice p n c] t) (hg : w.grownBy w' (some O)) : SlB w' v l :=
  SlV.grownBox h hb (fun c hc => by obtain ⟨x, _, rfl⟩ := List.mem_map.1 hc; intro e; cases e) hg
theorem Box.noTag {w : World} {O : Nat} {cs : Array Value} {t : TypeId} (hb : Box w O cs t) (ht : t ≠ 51) : ∀ g, some O = some g → ¬ Tag32 w g := by
  rintro g e ⟨cs', fz, h'⟩
  injection e with e
  subst e
  unfold Box at hb
  rw [hb] at h'
  injection h' with h'
  injection h' with _ h2
  exact ht h2
theorem IsR.grownBox {w w' : World} {v : Value} {R : Ro} {O : Nat} {p : Option Addr} {n c : Nat} {t : TypeId} (h : IsR w v R) (hb : Box w O #[.slice p n c] t) (ht : t ≠ 51) (hg : w.grownBy w' (some O)) : IsR w' v R := by
  obtain ⟨vh, vw, va, vb, vc, vd, e, h1, h2, h3, h4, h5, h6⟩ := h
  have hn := hb.noTag ht
  exact ⟨vh, vw, va, vb, vc, vd, e, h1.grownBox hb hg, h2.grownBox hb hg, h3.grown hg hn, h4.grown hg hn, h5.grown hg hn, h6.grown hg hn⟩
theorem grown_tr {a w w' : World} {row : Option Nat} (h : a.grownBy w row) (k : w.grownBy w' row) : a.grownBy w' row :=
  ⟨k.os.trans h.os, k.tape.trans h.tape, k.output.trans h.output, Nat.le_trans h.size k.size, fun b hb hne => (k.block b (Nat.lt_of_lt_of_le hb h.size) hne).trans (h.block b hb hne)⟩
theorem grown_but {a c : World} (h : a.grownBy c none) (row : Option Nat) : a.grownBy c row := ⟨h.os, h.tape, h.output, h.size, fun i hi _ => h.block i hi (by simp)⟩
theorem grown_below {W1 W W' : World} {row : Option Nat} (h : W1.grownBy W row) (hb : Below W.heap.size W W') : W1.grownBy W' row := grown_tr h (grown_but (grownBy_of_below hb) row)
/-- A change of a block that was not there at first. -/
theorem grown_new {W1 W W' : World} {row r2 : Option Nat} (h : W1.grownBy W row) (hg : W.grownBy W' r2) (hr : ∀ g, r2 = some g → W1.heap.size ≤ g) : W1.grownBy W' row :=
  ⟨hg.os.trans h.os, hg.tape.trans h.tape, hg.output.trans h.output, Nat.le_trans h.size hg.size, fun b hb hne =>
    (hg.block b (Nat.lt_of_lt_of_le hb h.size) (fun e => by have := hr b e.symm; omega)).trans (h.block b hb hne)⟩
theorem ownsRow_soft {W W' : World} {base n size l : Nat} {t : TypeId} {v : Value} {xs : List Value} (h : W.ownsRow base t size v n xs) (hs : Soft W l) (hg : W.grownBy W' (some l)) : W'.ownsRow base t size v n xs := by
  refine h.kept hg ?_
  rcases h.2 with ⟨rfl, _⟩ | ⟨g, cap, cur, rfl, _, hb, _⟩
  · exact .inl rfl
  · refine .inr ?_
    intro e
    simp [Value.ownBlock] at e
    exact hs.ne_box hb e
theorem grown_set (w : World) (O i : Nat) (u : Value) : w.grownBy (w.setCell ⟨O, i, none⟩ u) (some O) :=
  ⟨rfl, rfl, rfl, by simp [World.setCell], fun b _ hne => Below.heap_setCell w ⟨O, i, none⟩ u b (fun e => hne (by rw [e]))⟩
theorem ownsRow_ge {W : World} {base n size : Nat} {t : TypeId} {v : Value} {xs : List Value} (h : W.ownsRow base t size v n xs) : ∀ g, v.ownBlock = some g → base ≤ g ∧ ¬ Soft W g := by
  intro g hg
  rcases h.2 with ⟨rfl, _⟩ | ⟨g', cap, cur, rfl, hle, hb, _⟩
  · cases hg
  · obtain rfl : g' = g := by simpa [Value.ownBlock] using hg
    exact ⟨hle, fun hs => hs.ne_box hb rfl⟩
theorem ownsRow_shape {W : World} {base n size : Nat} {t : TypeId} {v : Value} {xs : List Value} (h : W.ownsRow base t size v n xs) : ∃ p c, v = .slice p n c := by
  rcases h.2 with ⟨rfl, h0⟩ | ⟨g', cap, cur, rfl, _⟩
  · exact ⟨none, 0, by rw [h0]⟩
  · exact ⟨_, _, rfl⟩
theorem cell_one {w : World} {u : Value} {t : TypeId} : ∀ j x, [u][j]? = some x → (w.alloc (.cells #[u] t)).cell? ((⟨w.heap.size, 0, none⟩ : Addr).add j) = some x := by
  intro j x hx
  match j, hx with
  | 0, hx =>
    obtain rfl : u = x := by simpa using hx
    exact (Box.new w #[u] t).cell 0
end Go.Proofs.Ytaojdlcailpheaa

namespace Go.Proofs.Ytaojdlcailpheaa
open Go.RowKit

/-- An element is told by its value itself. -/
def rdV (v : Value) : Option (DataW Value × List MemPlace) := some (.held v, [])
theorem mapLawI : Maps.Keyed Try.prog 3 := Maps.int_keyed Try.underlying3
theorem key_nat {k : Nat} (h : k ≤ 9223372036854775807) : keyOf Try.prog 3 (.int .i64 (k : Int)) = some (.int .i64 (k : Int)) := Maps.keyOf_int_mk Try.underlying3 (WalkArith.wf_i64 (by omega))
theorem zeroF (w : World) : (zeroValue 25).run Try.prog w = .ok (.agg #[.bool false, .slice none 0 0, .slice none 0 0]) w := by kernel_rfl
theorem ownsMap_isMap {w : World} {b n : Nat} {D : DataW Value} (h : w.ownsMap Try.prog 3 rdV b n D) : Maps.IsMap D := by
  obtain ⟨es, clock, _, _, _, rfl⟩ := h
  exact ⟨_, rfl⟩
theorem lit_nat {k k' : Nat} : (Lit.int .i64 (k : Int) = Lit.int .i64 (k' : Int)) ↔ k = k' := by
  constructor
  · intro h; injection h with _ h; omega
  · rintro rfl; rfl
/-- What the datum D says: key k bears f k. -/
def MapD (w : World) (D : DataW Value) (f : Nat → Option F) : Prop :=
  (∀ kl, Maps.has D kl = true → ∃ k : Nat, kl = .int .i64 (k : Int) ∧ (f k).isSome = true) ∧ (∀ k x, f k = some x → Maps.has D (.int .i64 (k : Int)) = true ∧ ∃ v, (∀ z, D.atKey (.int .i64 (k : Int)) z = .held v) ∧ IsF w v x)
theorem MapD.after {w w' : World} {D : DataW Value} {f : Nat → Option F} (h : MapD w D f) (hb : Below w.heap.size w w') : MapD w' D f :=
  ⟨h.1, fun k x hk => by obtain ⟨h1, v, h2, h3⟩ := h.2 k x hk; exact ⟨h1, v, h2, h3.after hb⟩⟩
theorem MapD.grown {w w' : World} {D : DataW Value} {f : Nat → Option F} {row : Option Nat} (h : MapD w D f) (hg : w.grownBy w' row) (hr : ∀ g, row = some g → ¬ Tag32 w g) : MapD w' D f :=
  ⟨h.1, fun k x hk => by obtain ⟨h1, v, h2, va, vb, e, h3, h4⟩ := h.2 k x hk; exact ⟨h1, v, h2, va, vb, e, h3.grown hg hr, h4.grown hg hr⟩⟩
theorem MapD.empty (w : World) : MapD w (.map []) (fun _ => none) := ⟨fun kl h => by simp [Maps.has] at h, fun k x h => by cases h⟩
/-- One entry more, or another one. -/
theorem MapD.put {w : World} {D : DataW Value} {f : Nat → Option F} {k : Nat} {v : Value} {x : F} (h : MapD w D f) (hm : Maps.IsMap D) (hv : IsF w v x) : MapD w (D.put (.int .i64 (k : Int)) (.held v)) (fun j => if j = k then some x else f j) := by
  have hk : Go.WideAt.IsKeyLit (.int .i64 (k : Int)) := trivial
  refine ⟨fun kl hh => ?_, fun j y hj => ?_⟩
  · by_cases he : kl = .int .i64 (k : Int)
    · exact ⟨k, he, by simp⟩
    · rw [Maps.has_put_other he] at hh
      obtain ⟨j, rfl, hj⟩ := h.1 kl hh
      refine ⟨j, rfl, ?_⟩
      show (if j = k then some x else f j).isSome = true
      rw [if_neg (fun e => he (by rw [e]))]
      exact hj
  · by_cases he : j = k
    · subst he
      simp only [if_true] at hj
      injection hj with hj
      subst hj
      exact ⟨Maps.has_put_same hm hk _, v, fun z => Maps.atKey_put_same hm hk _ z, hv⟩
    · simp only [he, if_false] at hj
      obtain ⟨h1, u, h2, h3⟩ := h.2 j y hj
      have hne : (Lit.int .i64 (j : Int)) ≠ .int .i64 (k : Int) := fun e => he (lit_nat.1 e)
      exact ⟨by rw [Maps.has_put_other hne]; exact h1, u, fun z => by rw [Maps.atKey_put_other hne]; exact h2 z, h3⟩
/-- Block M is a map of at most n entries: key k bears the fraction f k. -/
def MapF (w : World) (M n : Nat) (f : Nat → Option F) : Prop := ∃ D, w.ownsMap Try.prog 3 rdV M n D ∧ MapD w D f
theorem MapF.made (w : World) : MapF (w.alloc (.map #[] 0)) w.heap.size 0 (fun _ => none) := ⟨_, World.ownsMap_made w Try.prog 3 rdV, MapD.empty _⟩
theorem MapF.lt {w : World} {M n : Nat} {f : Nat → Option F} (h : MapF w M n f) : M < w.heap.size := by obtain ⟨D, h1, _⟩ := h; exact h1.lt
theorem MapF.after {w w' : World} {M n : Nat} {f : Nat → Option F} (h : MapF w M n f) (hb : Below w.heap.size w w') : MapF w' M n f := by
  obtain ⟨D, h1, h2⟩ := h
  exact ⟨D, h1.kept (grownBy_of_below hb) (by simp), h2.after hb⟩
theorem MapF.grown {w w' : World} {M n : Nat} {f : Nat → Option F} {row : Option Nat} (h : MapF w M n f) (hg : w.grownBy w' row) (hM : some M ≠ row) (hr : ∀ g, row = some g → ¬ Tag32 w g) : MapF w' M n f := by
  obtain ⟨D, h1, h2⟩ := h
  exact ⟨D, h1.kept hg hM, h2.grown hg hr⟩
theorem map_obj {w : World} {M n : Nat} {D : DataW Value} (h : w.ownsMap Try.prog 3 rdV M n D) : ∃ es c, w.heap[M]? = some (.map es c) := by
  obtain ⟨es, c, hb, _⟩ := h; exact ⟨es, c, hb⟩
theorem map_noTag {w : World} {M n : Nat} {D : DataW Value} (h : w.ownsMap Try.prog 3 rdV M n D) : ∀ g, some M = some g → ¬ Tag32 w g := by
  rintro g e ⟨cs, fz, h'⟩
  injection e with e
  subst e
  obtain ⟨es, c, hb⟩ := map_obj h
  rw [hb] at h'; cases h'
theorem map_notSoft {w : World} {M n : Nat} {D : DataW Value} (h : w.ownsMap Try.prog 3 rdV M n D) : ¬ Soft w M := by
  obtain ⟨es, c, hb⟩ := map_obj h
  rintro (⟨L, h'⟩ | ⟨d, h'⟩) <;> rw [hb] at h' <;> cases h'
/-- A cell is kept where only a map has turned. -/
theorem map_cell {w w' : World} {M n b o : Nat} {D : DataW Value} {v : Value} (h : w.ownsMap Try.prog 3 rdV M n D) (hg : w.grownBy w' (some M)) (hc : w.cell? ⟨b, o, none⟩ = some v) : w'.cell? ⟨b, o, none⟩ = some v := by
  refine hg.cell hc ?_
  intro e
  injection e with e
  simp only at e
  subst e
  obtain ⟨es, c, hb⟩ := map_obj h
  simp [World.cell?, hb] at hc
theorem map_box {w w' : World} {M n b : Nat} {D : DataW Value} {cs : Array Value} {t : TypeId} (h : w.ownsMap Try.prog 3 rdV M n D) (hg : w.grownBy w' (some M)) (hb : Box w b cs t) : Box w' b cs t := by
  refine hb.grown' hg ?_
  intro e
  injection e with e
  subst e
  obtain ⟨es, c, h'⟩ := map_obj h
  unfold Box at hb
  rw [hb] at h'; cases h'
/-- The value of no fraction. -/
def noF : Value := .agg #[.bool false, .slice none 0 0, .slice none 0 0]
/-- What a store leaves. -/
theorem MapF.put {w w' : World} {M n k : Nat} {f : Nat → Option F} {D : DataW Value} {v : Value} {x : F} (h : w.ownsMap Try.prog 3 rdV M n D) (hd : MapD w D f) (hv : IsF w v x)
    (h' : w'.ownsMap Try.prog 3 rdV M (n + 1) (D.put (.int .i64 (k : Int)) (.held v))) (hg : w.grownBy w' (some M)) : MapF w' M (n + 1) (fun j => if j = k then some x else f j) :=
  ⟨_, h', (hd.put (ownsMap_isMap h) hv).grown hg (map_noTag h)⟩
end Go.Proofs.Ytaojdlcailpheaa

namespace Go.Proofs.Ytaojdlcailpheaa
open Go.RowKit

/-- Of the blocks that were there, only those in S may have turned. -/
structure Fx (S : Nat → Prop) (w W : World) : Prop where
  os : W.os = w.os
  tape : W.tape = w.tape
  output : W.output = w.output
  size : w.heap.size ≤ W.heap.size
  block : ∀ b, b < w.heap.size → ¬ S b → W.heap[b]? = w.heap[b]?
section
variable {S : Nat → Prop} {w W W' : World}
theorem Fx.refl (S : Nat → Prop) (w : World) : Fx S w w := ⟨rfl, rfl, rfl, Nat.le_refl _, fun _ _ _ => rfl⟩
theorem Fx.grown {row : Option Nat} (h : Fx S w W) (hg : W.grownBy W' row) (hr : ∀ g, row = some g → S g ∨ w.heap.size ≤ g) : Fx S w W' :=
  ⟨hg.os.trans h.os, hg.tape.trans h.tape, hg.output.trans h.output, Nat.le_trans h.size hg.size, fun b hb hs =>
    (hg.block b (Nat.lt_of_lt_of_le hb h.size) (fun e => by rcases hr b e.symm with h1 | h1; exact hs h1; omega)).trans (h.block b hb hs)⟩
theorem Fx.below (h : Fx S w W) (hb : Below W.heap.size W W') : Fx S w W' := h.grown (grownBy_of_below hb) (fun _ e => by cases e)
theorem Fx.new {g : Nat} (h : Fx S w W) (hg : W.grownBy W' (some g)) (hn : w.heap.size ≤ g) : Fx S w W' := h.grown hg (fun g' e => by injection e with e; right; omega)
theorem Fx.of (h : Fx S w W) {g : Nat} (hg : W.grownBy W' (some g)) (hs : S g) : Fx S w W' := h.grown hg (fun g' e => by injection e with e; left; rw [← e]; exact hs)
theorem Fx.mono {T : Nat → Prop} (h : Fx S w W) (hT : ∀ b, S b → T b) : Fx T w W := ⟨h.os, h.tape, h.output, h.size, fun b hb hs => h.block b hb fun h => hs (hT b h)⟩
theorem Fx.toBelow {B : Nat} (h : Fx S w W) (hB : B ≤ w.heap.size) (hS : ∀ b, S b → B ≤ b) : Below B w W :=
  ⟨h.os, h.tape, h.output, h.size, fun b hb => h.block b (by omega) fun hs => by have := hS b hs; omega⟩
theorem Fx.trans (h : Fx S w W) (k : Fx S W W') : Fx S w W' :=
  ⟨k.os.trans h.os, k.tape.trans h.tape, k.output.trans h.output, Nat.le_trans h.size k.size, fun b hb hs => (k.block b (Nat.lt_of_lt_of_le hb h.size) hs).trans (h.block b hb hs)⟩
theorem Fx.of_below {w W : World} (h : Below w.heap.size w W) : Fx S w W := ⟨h.os, h.tape, h.output, h.size, fun b hb _ => h.block b hb⟩
theorem Box.fx {b : Nat} {cs : Array Value} {t : TypeId} (h : Box w b cs t) (hf : Fx S w W) (hb : ¬ S b) : Box W b cs t := (hf.block b h.lt hb).trans h
theorem Fx.cell {b o : Nat} {v : Value} (hf : Fx S w W) (h : w.cell? ⟨b, o, none⟩ = some v) (hb : ¬ S b) : W.cell? ⟨b, o, none⟩ = some v :=
  (World.cell?_of_block (hf.block b (World.block_lt_of_cell? w ⟨b, o, none⟩ h) hb)).trans h
theorem Sl.fx {v : Value} {l : List Nat} (h : Sl w v l) (hf : Fx S w W) (hr : ∀ g, S g → ¬ Tag32 w g) : Sl W v l := by
  obtain ⟨h0, a, cap, h1, h2, h3, h5, h6⟩ := h
  refine ⟨h0, a, cap, h1, h2, h3, ⟨h5.1, fun hl b off ha => ?_⟩, fun hl => ?_⟩
  · have ht := h5.2 hl b off ha
    have hne : ¬ S b := fun e => hr b e ht
    obtain ⟨cs, fz, ht'⟩ := ht
    exact ⟨cs, fz, (hf.block b (Tag32.lt ⟨cs, fz, ht'⟩) hne).trans ht'⟩
  · obtain ⟨b, off, ha, hlt, hc⟩ := h6 hl
    have ht := h5.2 hl b off ha
    exact ⟨b, off, ha, Nat.lt_of_lt_of_le hlt hf.size, fun i hi => hf.cell (hc i hi) fun e => hr b e ht⟩
theorem SlV.fx {v : Value} {cs : List Value} (h : SlV w v cs) (hf : Fx S w W) (hr : ∀ g o c, S g → w.cell? ⟨g, o, none⟩ = some c → c ∉ cs) : SlV W v cs := by
  obtain ⟨a, cap, h1, h2, h3, h4, h5⟩ := h
  refine ⟨a, cap, h1, h2, h3, h4, fun hl => ?_⟩
  obtain ⟨b, off, e, hlt, hc⟩ := h5 hl
  have hne : ¬ S b := fun hs => hr b _ cs[0] hs (hc 0 cs[0] (List.getElem?_eq_getElem hl)) (List.getElem_mem hl)
  exact ⟨b, off, e, Nat.lt_of_lt_of_le hlt hf.size, fun i c hi => hf.cell (hc i c hi) hne⟩
/-- The blocks of S hold neither limbs nor ints. -/
def Dull (S : Nat → Prop) (w : World) : Prop := (∀ g, S g → ¬ Tag32 w g) ∧ ∀ g o z, S g → w.cell? ⟨g, o, none⟩ ≠ some (.int .i64 z)
theorem SlI.fx {v : Value} {l : List Int} (h : SlI w v l) (hf : Fx S w W) (hd : Dull S w) : SlI W v l :=
  ⟨h.1, h.2.fx hf fun g o c hs hc hm => by obtain ⟨z, _, rfl⟩ := List.mem_map.1 hm; exact hd.2 g o z hs hc⟩
theorem IsF.fx {v : Value} {x : F} (h : IsF w v x) (hf : Fx S w W) (hd : Dull S w) : IsF W v x := by
  obtain ⟨va, vb, e, h1, h2⟩ := h
  exact ⟨va, vb, e, h1.fx hf hd.1, h2.fx hf hd.1⟩
theorem VarF.fx {b : Nat} {x : F} (h : VarF w b x) (hf : Fx S w W) (hd : Dull S w) (hb : ¬ S b) : VarF W b x := by
  obtain ⟨va, vb, e, h1, h2⟩ := h
  exact ⟨va, vb, e.fx hf hb, h1.fx hf hd.1, h2.fx hf hd.1⟩
theorem IsR.fx {v : Value} {R : Ro} (h : IsR w v R) (hf : Fx S w W) (hd : Dull S w) : IsR W v R := by
  obtain ⟨vh, vw, va, vb, vc, vd, e, h1, h2, h3, h4, h5, h6⟩ := h
  exact ⟨vh, vw, va, vb, vc, vd, e, h1.fx hf hd, h2.fx hf hd, h3.fx hf hd.1, h4.fx hf hd.1, h5.fx hf hd.1, h6.fx hf hd.1⟩
end
theorem MapF.fx {S : Nat → Prop} {w W : World} {M n : Nat} {f : Nat → Option F} (h : MapF w M n f) (hf : Fx S w W) (hd : Dull S w) (hM : ¬ S M) : MapF W M n f := by
  obtain ⟨D, h1, h2⟩ := h
  refine ⟨D, ?_, h2.1, fun k x hk => ?_⟩
  · obtain ⟨es, clock, hb, h4⟩ := h1
    exact ⟨es, clock, (hf.block M (Array.getElem?_eq_some_iff.1 hb).1 hM).trans hb, h4⟩
  · obtain ⟨g1, v, g2, g3⟩ := h2.2 k x hk
    exact ⟨g1, v, g2, g3.fx hf hd⟩
theorem MapF.more {w : World} {M n m : Nat} {f : Nat → Option F} (h : MapF w M n f) (hn : n ≤ m) : MapF w M m f := by
  obtain ⟨D, h1, h2⟩ := h
  exact ⟨D, h1.mono hn, h2⟩
theorem MapF.cong {w : World} {M n : Nat} {f g : Nat → Option F} (h : MapF w M n f) (hfg : ∀ k, f k = g k) : MapF w M n g := by
  rw [← show f = g from funext hfg]; exact h
end Go.Proofs.Ytaojdlcailpheaa

namespace Go.Proofs.Ytaojdlcailpheaa

open Classical in
/-- With fewer failures than this the rollout goes on at n hosts. -/
noncomputable def mOf (R : Ro) (n : Nat) : Nat := if h : ∃ m, m ≤ n + 1 ∧ ∀ k : Nat, GoB R n k ↔ k < m then Classical.choose h else 0
theorem mOf_eq {R : Ro} {n m : Nat} (hm : m ≤ n + 1) (hg : ∀ k : Nat, GoB R n k ↔ k < m) : mOf R n = m := by
  have h : ∃ m, m ≤ n + 1 ∧ ∀ k : Nat, GoB R n k ↔ k < m := ⟨m, hm, hg⟩
  unfold mOf
  rw [dif_pos h]
  have hc := (Classical.choose_spec h).2
  rcases Nat.lt_trichotomy (Classical.choose h) m with h1 | h1 | h1
  · have := (hc (Classical.choose h)).1 ((hg _).2 h1); omega
  · exact h1
  · have := (hg m).1 ((hc m).2 h1); omega
/-- The first r entries of what Allowed returns. -/
noncomputable def allowedL (R : Ro) (r : Nat) : List Int := (List.range r).map fun j => (mOf R (cum R (j + 1)) : Int) - 1
theorem allowedL_succ (R : Ro) (r : Nat) : allowedL R (r + 1) = allowedL R r ++ [(mOf R (cum R (r + 1)) : Int) - 1] := by
  unfold allowedL; rw [List.range_succ, List.map_append]; rfl
theorem allowedL_len (R : Ro) (r : Nat) : (allowedL R r).length = r := by unfold allowedL; simp
open Classical in
/-- What Allowed returns. -/
noncomputable def allowedF (R : Ro) : List Int × Int := if ValidR R then (allowedL R R.waves.length, 0) else ([], 1)
theorem waves_le {R : Ro} (h : ValidR R) : R.waves.length ≤ 16 := by
  have h1 := sum_pos h.2.2.2.2.1
  rw [h.2.2.2.2.2.1] at h1
  have := h.2.1
  omega
/-- Where a valid rollout stops going on. -/
theorem goB_mOf {R : Ro} (h : ValidR R) {n : Nat} (hn : n ≤ 16) : mOf R n ≤ n + 1 ∧ ∀ k : Nat, GoB R n k ↔ k < mOf R n := by
  obtain ⟨a, b, x, y, e1, h1, h2, h3, h4, e2, h5, h6, hg⟩ := validR_fr h
  have hex : ∃ m, m ≤ n + 1 ∧ ∀ k : Nat, GoB R n k ↔ k < m := by
    by_cases h0 : ∃ k, Abv n a (b - a) x y k
    · classical
      have hle : ∀ k, Abv n a (b - a) x y k → k ≤ n := fun k hk => abv_le hk
      -- the greatest of them
      obtain ⟨k, hk, hmax⟩ : ∃ k, Abv n a (b - a) x y k ∧ ∀ j, Abv n a (b - a) x y j → j ≤ k := by
        have : ∀ d, (∃ k, Abv n a (b - a) x y k ∧ n - k ≤ d) → ∃ k, Abv n a (b - a) x y k ∧ ∀ j, Abv n a (b - a) x y j → j ≤ k := by
          intro d
          induction d with
          | zero =>
            rintro ⟨k, hk, hd⟩
            exact ⟨k, hk, fun j hj => by have := hle j hj; omega⟩
          | succ d ih =>
            rintro ⟨k, hk, hd⟩
            by_cases hm : ∀ j, Abv n a (b - a) x y j → j ≤ k
            · exact ⟨k, hk, hm⟩
            · have : ∃ j, ¬ (Abv n a (b - a) x y j → j ≤ k) := Classical.not_forall.1 hm
              obtain ⟨j, hj⟩ := this
              have hj1 : Abv n a (b - a) x y j := Classical.byContradiction fun hh => hj (fun h => absurd h hh)
              have hj2 : ¬ j ≤ k := fun hh => hj (fun _ => hh)
              exact ih ⟨j, hj1, by have := hle j hj1; omega⟩
        obtain ⟨k, hk⟩ := h0
        exact this n ⟨k, hk, by omega⟩
      refine ⟨k + 1, by have := hle k hk; omega, fun j => ?_⟩
      rw [hg]
      exact ⟨fun hj => by have := hmax j hj; omega, fun hj => abv_anti (by omega) hk⟩
    · exact ⟨0, by omega, fun k => by rw [hg]; exact ⟨fun hk => absurd ⟨k, hk⟩ h0, fun hk => by omega⟩⟩
  obtain ⟨m, hm, hk⟩ := hex
  rw [mOf_eq hm hk]
  exact ⟨hm, hk⟩
end Go.Proofs.Ytaojdlcailpheaa
