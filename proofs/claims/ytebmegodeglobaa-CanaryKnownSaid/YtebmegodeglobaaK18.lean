/- Walks of package tails: Upper.
   Walks of package tails: Upper, where it is refused; Upper.
   Walks of the reference's tails: Upper.
   Walks of the statements' own functions: of, one, is.
   Walks of the statements' own functions: one, rate, few, own.
   Plain facts for the statements on tails: values at small numbers.
   Tails as fractions: what Exactly and Tail return, by value.
   Canary, plain: the probability that a rollout stops, wave by wave, as whole numbers over a power of the rate's denominator.
   Canary, plain: which numbers of failures the map of Chance bears behind each wave. -/
import Derived.Test.YtebmegodeglobaaK17
import Derived.Test.YtebmegodeglobaaK16
import Derived.Test.YtebmegodeglobaaK10
import Derived.Test.YtebmegodeglobaaK03
set_option linter.unusedVariables false
namespace Go.Proofs.Ytebmegodeglobaa
open Go.RowKit

/-- Where Upper's test first holds, as sort.Search finds it. -/
def UpR (n k x y den m : Nat) : Prop := m ≤ den + 1 ∧ (m = 0 ∨ ¬ UpB n k x y den (m - 1)) ∧ (m = den + 1 ∨ UpB n k x y den m)
/-- What Upper returns. -/
def upperF (n k : Int) (b : F) (den : Int) (r : Int × Int) : Prop :=
  if fracE b = 0 then
    (if trialsB n k (IntKind.i64.wrap (n + 1)) = true ∧ 1 ≤ den ∧ den ≤ 1000 then
      ∃ m : Nat, UpR n.toNat k.toNat (val b.num) (val b.den) den.toNat m ∧ r = if den < (m : Int) then (0, 7) else ((m : Int), 0)
    else r = (0, 2))
  else r = (0, fracE b)

theorem start4 (w : World) (n k den : Int) (A : Array Value) : ∃ W0, W0 = (((w.alloc (.cells #[.int .i64 n] 3)).alloc (.cells #[.int .i64 k] 3)).alloc (.cells A 26)).alloc (.cells #[.int .i64 den] 3) ∧
    Box W0 w.heap.size #[.int .i64 n] 3 ∧ Box W0 (w.heap.size + 1) #[.int .i64 k] 3 ∧ Box W0 (w.heap.size + 1 + 1) A 26 ∧ Box W0 (w.heap.size + 1 + 1 + 1) #[.int .i64 den] 3 ∧ W0.heap.size = w.heap.size + 4 ∧ Below w.heap.size w W0 :=
  ⟨_, rfl, fourA rfl, fourB rfl, fourC rfl, fourD rfl, by simp, held_alloc (held_alloc (held_alloc (held_alloc (Below.refl _ w))))⟩

end Go.Proofs.Ytebmegodeglobaa

namespace Go.Proofs.Ytebmegodeglobaa
open Go.RowKit

end Go.Proofs.Ytebmegodeglobaa

namespace Go.Proofs.Ytebmegodeglobaa
open Go.RowKit

theorem after_new {wi w2 : World} {cs : Array Value} {t : TypeId} (hb : Below (wi.alloc (.cells cs t)).heap.size (wi.alloc (.cells cs t)) w2) : Below wi.heap.size wi w2 ∧ Box w2 wi.heap.size cs t :=
  ⟨((Below.refl _ wi).alloc (Nat.le_refl _) _).trans (hb.mono (by simp)), (Box.new wi cs t).after hb⟩

/-- The error that Upper returns where it returns one at once. -/
def upErr (s : Int) : Int := if s = 0 then 2 else s
theorem upB_mono {n k x y den i j : Nat} (hij : i ≤ j) (hj : j ≤ den) (h : UpB n k x y den i) : UpB n k x y den j :=
  Nat.lt_of_lt_of_le h (Nat.mul_le_mul_right y (tl_rate (by omega) hij n k))
theorem upR_uniq {n k x y den r s : Nat} (h1 : UpR n k x y den r) (h2 : UpR n k x y den s) : r = s := by
  obtain ⟨a1, a2, a3⟩ := h1
  obtain ⟨b1, b2, b3⟩ := h2
  rcases Nat.lt_trichotomy r s with h | h | h
  · have h3 := b2.resolve_left (by omega)
    exact absurd (upB_mono (by omega) (by omega) (a3.resolve_left (by omega))) h3
  · exact h
  · have h3 := a2.resolve_left (by omega)
    exact absurd (upB_mono (by omega) (by omega) (b3.resolve_left (by omega))) h3

theorem upperF_uniq {n k den : Int} {Y : F} {r s : Int × Int} (h1 : upperF n k Y den r) (h2 : upperF n k Y den s) : r = s := by
  unfold upperF at h1 h2
  by_cases hs : fracE Y = 0
  · rw [if_pos hs] at h1 h2
    by_cases hc : trialsB n k (IntKind.i64.wrap (n + 1)) = true ∧ 1 ≤ den ∧ den ≤ 1000
    · rw [if_pos hc] at h1 h2
      obtain ⟨m, hm, rfl⟩ := h1
      obtain ⟨l, hl, rfl⟩ := h2
      rw [upR_uniq hm hl]
    · rw [if_neg hc] at h1 h2
      rw [h1, h2]
  · rw [if_neg hs] at h1 h2
    rw [h1, h2]
end Go.Proofs.Ytebmegodeglobaa

namespace Go.Proofs.Ytebmegodeglobaa
open Go.RowKit

end Go.Proofs.Ytebmegodeglobaa

namespace Go.Proofs.Ytebmegodeglobaa
open Go.RowKit

/-- A row cut to 34 limbs. -/
def cut34 (x : F) : F := ⟨x.neg, x.num.take 34, x.den.take 34⟩
/-- Fewer trials. -/
def fewN (n : Int) : Int := if 20 < n ∧ n < 64 then 20 else n

theorem Sl.cut {w : World} {p : Option Addr} {c : Nat} {l : List Nat} (h : Sl w (.slice p l.length c) l) : Sl w (.slice p (min (l.length : Int) 34).toNat c) (l.take 34) := by
  have := h.front (min l.length 34) (by omega)
  have e1 : (min (l.length : Int) 34).toNat = min l.length 34 := by omega
  have e2 : l.take (min l.length 34) = l.take 34 := by
    rcases Nat.le_total l.length 34 with h1 | h1
    · rw [Nat.min_eq_left h1, List.take_of_length_le h1, List.take_of_length_le (Nat.le_refl _)]
    · rw [Nat.min_eq_right h1]
  rw [e1, ← e2]; exact this

end Go.Proofs.Ytebmegodeglobaa

namespace Go.Proofs.Ytebmegodeglobaa
open Go.RowKit

theorem below_dn {w w' : World} (h : ∃ n, w' = w.drewN n) : Below w.heap.size w w' := by
  obtain ⟨n, rfl⟩ := h; exact below_drewN _ _ _
theorem below_same {w w' : World} (h : w' = w) : Below w.heap.size w w' := h ▸ Below.refl _ _
theorem IsF.set3 {w : World} {v : Value} {x : F} {R : Nat} {x0 x1 x2 : Value} {t : TypeId} (h : IsF w v x) (hR : Box w R #[x0, x1, x2] t) (h0 : ∀ x, x0 ≠ .int .u32 x) (h1 : ∀ x, x1 ≠ .int .u32 x) (h2 : ∀ x, x2 ≠ .int .u32 x) (y0 y1 y2 : Value) :
    IsF (((w.setCell ⟨R, 0, none⟩ y0).setCell ⟨R, 1, none⟩ y1).setCell ⟨R, 2, none⟩ y2) v x := by
  obtain ⟨c0, c1, c2⟩ := hR.cells3
  refine ((h.setN c0 h0 y0).setN (u0 := x1) ?_ h1 y1).setN (u0 := x2) ?_ h2 y2
  · rw [World.cell?_setCell_other _ _ _ _ (fun e => by injection e with e1 e2; cases e2)]; exact c1
  · rw [World.cell?_setCell_other _ _ _ _ (fun e => by injection e with e1 e2; cases e2), World.cell?_setCell_other _ _ _ _ (fun e => by injection e with e1 e2; cases e2)]; exact c2
theorem IsF.via {w w' : World} {v : Value} {x : F} (h : IsF w v x) (k : ∀ v l, Sl w v l → Sl w' v l) : IsF w' v x := by
  obtain ⟨va, vb, e, h1, h2⟩ := h
  exact ⟨va, vb, e, k _ _ h1, k _ _ h2⟩
theorem Sl.via {w w' : World} {v : Value} {l : List Nat} (h : Sl w v l) (k : ∀ v l, Sl w v l → Sl w' v l) : Sl w' v l := k _ _ h
theorem after_set {wi w2 : World} {R : Nat} {x0 x1 x2 y0 y1 y2 : Value} {t : TypeId} (hR : Box wi R #[x0, x1, x2] t) (h0 : ∀ x, x0 ≠ .int .u32 x) (h1 : ∀ x, x1 ≠ .int .u32 x) (h2 : ∀ x, x2 ≠ .int .u32 x)
    (hb : Below (((wi.setCell ⟨R, 0, none⟩ y0).setCell ⟨R, 1, none⟩ y1).setCell ⟨R, 2, none⟩ y2).heap.size (((wi.setCell ⟨R, 0, none⟩ y0).setCell ⟨R, 1, none⟩ y1).setCell ⟨R, 2, none⟩ y2) w2) :
    (∀ S cs u, S ≠ R → Box wi S cs u → Box w2 S cs u) ∧ (∀ v l, Sl wi v l → Sl w2 v l) ∧ (∀ B w, Below B w wi → B ≤ R → Below B w w2) ∧ Box w2 R #[y0, y1, y2] t := by
  refine ⟨fun S cs u hne hS => (far_box hS hne).after hb, fun v l hl => ?_, fun B w hw hB => (((hw.setCell (p := ⟨R, 0, none⟩) hB _).setCell (p := ⟨R, 1, none⟩) hB _).setCell (p := ⟨R, 2, none⟩) hB _).trans (hb.mono ?_), (end_box hR).after hb⟩
  · obtain ⟨c0, c1, c2⟩ := hR.cells3
    refine (((hl.setN c0 h0 y0).setN (u0 := x1) ?_ h1 y1).setN (u0 := x2) ?_ h2 y2).after hb
    · rw [World.cell?_setCell_other _ _ _ _ (fun e => by injection e with e1 e2; cases e2)]; exact c1
    · rw [World.cell?_setCell_other _ _ _ _ (fun e => by injection e with e1 e2; cases e2), World.cell?_setCell_other _ _ _ _ (fun e => by injection e with e1 e2; cases e2)]; exact c2
  · exact Nat.le_trans hB (Nat.le_of_lt (end_box hR).lt)
theorem small_ok {n d : Nat} (hn : n < 4294967296) (hd : d < 4294967296) (h0 : 0 < d) (hg : Nat.gcd n d = 1) : Ok false n d :=
  ⟨Nat.le_trans (limbs_len_lt (k := 1) (by omega)) (by omega), Nat.le_trans (limbs_len_lt (k := 1) (by omega)) (by omega), h0, hg, fun _ => rfl⟩
theorem made_red {g a b : Nat} (hg : 0 < g) (h : Ok false a b) : made false (g * a) (g * b) = (fr false a b, 0) := by
  unfold made
  rw [Nat.gcd_mul_left, h.gcd, Nat.mul_one, Nat.mul_div_cancel_left _ hg, Nat.mul_div_cancel_left _ hg, if_neg]
  · simp
  · have := h.n32; have := h.d32; omega
theorem made_ok {a b : Nat} (h : Ok false a b) : made false a b = (fr false a b, 0) := by
  have := made_red (g := 1) (by omega) h
  rwa [Nat.one_mul, Nat.one_mul] at this
theorem ofF_nat (n d : Nat) (hd : 0 < d) : ofF (n : Int) (d : Int) = made false n d := by
  unfold ofF
  rw [if_neg (by omega)]
  have h1 : decide ((n : Int) < 0) = false := by simp
  have h2 : decide ((d : Int) < 0) = false := by simp
  rw [h1, h2]
  simp
theorem ofF_ok {a b : Nat} {z y : Int} (hz : z = a) (hy : y = b) (h : Ok false a b) : ofF z y = (fr false a b, 0) := by
  subst hz; subst hy
  rw [ofF_nat _ _ h.pos, made_ok h]
theorem fracE_ok {a b : Nat} (h : Ok false a b) (hab : a ≤ b) : fracE (fr false a b) = 0 := by
  rw [fracE_yes (validF_fr.2 h)]
  rw [if_neg]
  show ¬ (false = true ∨ val (limbs b) < val (limbs a))
  rw [val_limbs, val_limbs]
  simp; omega
theorem rateE_ok {a b : Nat} (h : Ok false a b) (hab : a ≤ b) (hb : b ≤ 1000) : rateE (fr false a b) = 0 := by
  rw [rateE_good (fracE_ok h hab), if_neg]
  show ¬ 1000 < val (limbs b)
  rw [val_limbs]; omega
theorem exactlyF_val {n k a b : Nat} (h : Ok false a b) (hab : a ≤ b) (hb : b ≤ 1000) (hn : n ≤ 64) (hk : k ≤ n) : exactlyF (n : Int) (k : Int) (fr false a b) = made false (ex a (b - a) n k) (b ^ n) := by
  unfold exactlyF
  have ht : trialsB (n : Int) (k : Int) (n : Int) = true := trialsB_iff.2 ⟨by omega, by omega, by omega, by omega⟩
  rw [ht, if_pos (checkE_true (rateE_ok h hab hb))]
  show made false (ex (val (limbs a)) (val (limbs b) - val (limbs a)) _ _) (val (limbs b) ^ _) = _
  rw [val_limbs, val_limbs]; simp
theorem tailF_val {n k a b : Nat} (h : Ok false a b) (hab : a ≤ b) (hb : b ≤ 1000) (hn : n ≤ 64) (hk : k ≤ n + 1) : tailF (n : Int) (k : Int) (fr false a b) = made false (tl a (b - a) n k) (b ^ n) := by
  unfold tailF
  have hw : IntKind.i64.wrap ((n : Int) + 1) = (n : Int) + 1 := wrap_in (by omega) (by omega)
  have ht : trialsB (n : Int) (k : Int) ((n : Int) + 1) = true := trialsB_iff.2 ⟨by omega, by omega, by omega, by omega⟩
  rw [hw, ht, if_pos (checkE_true (rateE_ok h hab hb))]
  show made false (tl (val (limbs a)) (val (limbs b) - val (limbs a)) _ _) (val (limbs b) ^ _) = _
  rw [val_limbs, val_limbs]; simp
theorem chooseF_val {n k : Nat} (hn : n ≤ 64) (hk : k ≤ n) : chooseF (n : Int) (k : Int) = (limbs (ch n k), 0) := by
  unfold chooseF
  have ht : trialsB (n : Int) (k : Int) (n : Int) = true := trialsB_iff.2 ⟨by omega, by omega, by omega, by omega⟩
  rw [if_pos ht]; simp
theorem critF_val {n a b x y : Nat} {r : Int × Int} (h : Ok false a b) (hab : a ≤ b) (hb : b ≤ 1000) (hn : n ≤ 64) (g : Ok false x y) (hxy : x ≤ y) (hr : critF (n : Int) (fr false a b) (fr false x y) r) : ∃ m : Nat, r = ((m : Int), 0) ∧ CritR n a (b - a) x y m := by
  unfold critF at hr
  have ht : trialsB (n : Int) 0 0 = true := trialsB_iff.2 ⟨by omega, by omega, by omega, by omega⟩
  rw [ht, if_pos ⟨checkE_true (rateE_ok h hab hb), fracE_ok g hxy⟩] at hr
  obtain ⟨m, hm, hc⟩ := hr
  refine ⟨m, hm, ?_⟩
  change CritR _ (val (limbs a)) (val (limbs b) - val (limbs a)) (val (limbs x)) (val (limbs y)) m at hc
  rw [val_limbs, val_limbs, val_limbs, val_limbs] at hc
  simpa using hc
theorem upperF_val {n k x y den : Nat} {r : Int × Int} (hn : n ≤ 64) (hk : k ≤ n + 1) (g : Ok false x y) (hxy : x ≤ y) (hd0 : 1 ≤ den) (hd1 : den ≤ 1000) (hr : upperF (n : Int) (k : Int) (fr false x y) (den : Int) r) : ∃ m : Nat, UpR n k x y den m ∧ r = if (den : Int) < (m : Int) then (0, 7) else ((m : Int), 0) := by
  unfold upperF at hr
  have hw : IntKind.i64.wrap ((n : Int) + 1) = (n : Int) + 1 := wrap_in (by omega) (by omega)
  have ht : trialsB (n : Int) (k : Int) ((n : Int) + 1) = true := trialsB_iff.2 ⟨by omega, by omega, by omega, by omega⟩
  rw [if_pos (fracE_ok g hxy), hw, ht, if_pos ⟨rfl, by omega, by omega⟩] at hr
  obtain ⟨m, hm, hc⟩ := hr
  refine ⟨m, ?_, hc⟩
  change UpR _ _ (val (limbs x)) (val (limbs y)) _ m at hm
  rw [val_limbs, val_limbs] at hm
  simpa using hm

theorem ok13 : Ok false 1 3 := small_ok (by omega) (by omega) (by omega) (by decide)
theorem ok110 : Ok false 1 10 := small_ok (by omega) (by omega) (by omega) (by decide)
theorem ok12 : Ok false 1 2 := small_ok (by omega) (by omega) (by omega) (by decide)
theorem tl_41 : tl 1 2 4 1 = 65 := by simp [tl_le, tl_gt, ex, ch]
theorem w_third : ofF 1 3 = (fr false 1 3, 0) := ofF_ok (a := 1) (b := 3) rfl rfl ok13
theorem w_tenth : ofF 1 10 = (fr false 1 10, 0) := ofF_ok (a := 1) (b := 10) rfl rfl ok110
theorem w_half : ofF 1 2 = (fr false 1 2, 0) := ofF_ok (a := 1) (b := 2) rfl rfl ok12
theorem w_choose : chooseF 5 2 = ([10], 0) := by
  have := chooseF_val (n := 5) (k := 2) (by omega) (by omega)
  rw [show ch 5 2 = 10 by decide, limbs_small (by omega) (by omega)] at this
  exact this
theorem w_exactly : exactlyF 4 1 (fr false 1 3) = (fr false 32 81, 0) := by
  have := exactlyF_val (n := 4) (k := 1) ok13 (by omega) (by omega) (by omega) (by omega)
  rw [show ex 1 (3 - 1) 4 1 = 32 by decide, show 3 ^ 4 = 81 by decide, made_ok (small_ok (by omega) (by omega) (by omega) (by decide))] at this
  exact this
theorem w_tail : tailF 4 1 (fr false 1 3) = (fr false 65 81, 0) := by
  have := tailF_val (n := 4) (k := 1) ok13 (by omega) (by omega) (by omega) (by omega)
  rw [show 3 - 1 = 2 by decide, tl_41, show 3 ^ 4 = 81 by decide, made_ok (small_ok (by omega) (by omega) (by omega) (by decide))] at this
  exact this
theorem w_32 : (ofF 32 81).1 = fr false 32 81 := congrArg Prod.fst (ofF_ok (a := 32) (b := 81) rfl rfl (small_ok (by omega) (by omega) (by omega) (by decide)))
theorem w_65 : (ofF 65 81).1 = fr false 65 81 := congrArg Prod.fst (ofF_ok (a := 65) (b := 81) rfl rfl (small_ok (by omega) (by omega) (by omega) (by decide)))
theorem w_crit {r : Int × Int} (h : critF 4 (fr false 1 3) (fr false 1 10) r) : r = (4, 0) := by
  obtain ⟨m, rfl, hm⟩ := critF_val (n := 4) ok13 (by omega) (by omega) (by omega) ok110 (by omega) h
  have h4 : CritR 4 1 (3 - 1) 1 10 4 := .inl ⟨3, by omega, by simp [Abv, tl_le, tl_gt, ex, ch], fun j h1 h2 => by
    obtain rfl : j = 4 := by omega
    simp [Abv, tl_le, tl_gt, ex, ch], rfl⟩
  rw [critR_uniq hm h4]; rfl
theorem w_upper {r : Int × Int} (h : upperF 4 1 (fr false 1 2) 10 r) : r = (2, 0) := by
  obtain ⟨m, hm, rfl⟩ := upperF_val (n := 4) (k := 1) (den := 10) (by omega) (by omega) ok12 (by omega) (by omega) (by omega) h
  have h2 : UpR 4 1 1 2 10 2 := ⟨by omega, .inr (by simp [UpB, tl_le, tl_gt, ex, ch]), .inr (by simp [UpB, tl_le, tl_gt, ex, ch])⟩
  rw [upR_uniq hm h2]; rfl
end Go.Proofs.Ytebmegodeglobaa

namespace Go.Proofs.Ytebmegodeglobaa

theorem of_small {j den : Nat} (hj : j ≤ den) (hd : 0 < den) (hb : den ≤ 1000) : ∃ a b, ofF (j : Int) (den : Int) = (fr false a b, 0) ∧ Ok false a b ∧ a ≤ b ∧ b ≤ 1000 ∧ Rep (fr false a b) (j : Int) den ∧ (∃ g, 0 < g ∧ j = g * a ∧ den = g * b) := by
  obtain ⟨a, b, hab, e1, e2⟩ := Nat.exists_coprime j den
  have hg : 0 < Nat.gcd j den := Nat.gcd_pos_of_pos_right _ hd
  generalize Nat.gcd j den = g at *
  have hb0 : 0 < b := by
    rcases Nat.eq_zero_or_pos b with h0 | h0
    · rw [h0, Nat.zero_mul] at e2; omega
    · exact h0
  have lb : b ≤ den := by rw [e2]; exact Nat.le_mul_of_pos_right _ hg
  have la : a ≤ b := by
    rw [e1, e2] at hj
    exact Nat.le_of_mul_le_mul_right hj hg
  have hk : Ok false a b := small_ok (by omega) (by omega) hb0 hab
  have e3 : ofF (j : Int) (den : Int) = (fr false a b, 0) := by
    rw [ofF_nat _ _ hd, e1, e2, Nat.mul_comm a, Nat.mul_comm b]
    exact made_red hg hk
  refine ⟨a, b, e3, hk, la, by omega, (rep_of_ok hk).cong hd ?_, g, hg, by rw [e1, Nat.mul_comm], by rw [e2, Nat.mul_comm]⟩
  show (a : Int) * den = j * b
  rw [e1, e2]; push_cast; ac_rfl

/-- The tail at k, as a fraction. -/
noncomputable def Tq (a b m k : Nat) : F := (made false (tl a (b - a) m k) (b ^ m)).1
/-- The part of exactly k, as a fraction. -/
noncomputable def Eq_ (a b m k : Nat) : F := (made false (ex a (b - a) m k) (b ^ m)).1
theorem made_nat (n d : Nat) : made false n d = madeZ (n : Int) d := made_sg false n d
theorem tailF_q {a b m k : Nat} (h : Ok false a b) (hab : a ≤ b) (hb : b ≤ 1000) (hm : m ≤ 64) (hk : k ≤ m + 1) : tailF (m : Int) (k : Int) (fr false a b) = (Tq a b m k, 0) ∧ Rep (Tq a b m k) (tl a (b - a) m k : Nat) (b ^ m) := by
  have hd : 0 < b ^ m := Nat.pow_pos h.pos
  obtain ⟨x, hx, hr⟩ := rep_of_made (z := ((tl a (b - a) m k : Nat) : Int)) hd (by rw [Int.natAbs_natCast]; exact Nat.le_trans (tl_limbs hab hb hm) (by omega)) (Nat.le_trans (pow_limbs hb hm) (by omega))
  rw [tailF_val h hab hb hm hk]
  unfold Tq
  rw [made_nat, hx]
  exact ⟨rfl, hr⟩
theorem exactlyF_q {a b m k : Nat} (h : Ok false a b) (hab : a ≤ b) (hb : b ≤ 1000) (hm : m ≤ 64) (hk : k ≤ m) : exactlyF (m : Int) (k : Int) (fr false a b) = (Eq_ a b m k, 0) ∧ Rep (Eq_ a b m k) (ex a (b - a) m k : Nat) (b ^ m) := by
  have hd : 0 < b ^ m := Nat.pow_pos h.pos
  obtain ⟨x, hx, hr⟩ := rep_of_made (z := ((ex a (b - a) m k : Nat) : Int)) hd (by rw [Int.natAbs_natCast]; exact Nat.le_trans (ex_limbs hab hb hm) (by omega)) (Nat.le_trans (pow_limbs hb hm) (by omega))
  rw [exactlyF_val h hab hb hm hk]
  unfold Eq_
  rw [made_nat, hx]
  exact ⟨rfl, hr⟩
theorem rep_zero : Rep (fr false 0 1) 0 1 := rep_of_ok (small_ok (by omega) (by omega) (by omega) (by decide))
theorem rep_one : Rep (fr false 1 1) 1 1 := rep_of_ok (small_ok (by omega) (by omega) (by omega) (by decide))
theorem w_01 : (ofF 0 1).1 = fr false 0 1 := congrArg Prod.fst (ofF_ok (a := 0) (b := 1) rfl rfl (small_ok (by omega) (by omega) (by omega) (by decide)))
theorem w_11 : (ofF 1 1).1 = fr false 1 1 := congrArg Prod.fst (ofF_ok (a := 1) (b := 1) rfl rfl (small_ok (by omega) (by omega) (by omega) (by decide)))
/-- Behind the last failure there is nothing. -/
theorem Tq_last {a b m : Nat} (h : Ok false a b) (hab : a ≤ b) (hb : b ≤ 1000) (hm : m ≤ 64) : Tq a b m (m + 1) = fr false 0 1 := by
  have := (tailF_q (k := m + 1) h hab hb hm (Nat.le_refl _)).2
  rw [tl_gt (by omega)] at this
  exact (this.inj rep_zero).2 (by simp)
/-- All together is 1. -/
theorem Tq_zero {a b m : Nat} (h : Ok false a b) (hab : a ≤ b) (hb : b ≤ 1000) (hm : m ≤ 64) : Tq a b m 0 = fr false 1 1 := by
  have := (tailF_q (k := 0) h hab hb hm (by omega)).2
  rw [tl_all, show a + (b - a) = b by omega] at this
  exact (this.inj rep_one).2 (by push_cast; omega)
/-- The next tail and the part between are the tail. -/
theorem Tq_add {a b m k : Nat} (h : Ok false a b) (hab : a ≤ b) (hb : b ≤ 1000) (hm : m ≤ 64) (hk : k ≤ m) : opF sumN (Tq a b m (k + 1)) (Eq_ a b m k) = (Tq a b m k, 0) := by
  have h1 := (tailF_q (k := k + 1) h hab hb hm (by omega)).2
  have h2 := (exactlyF_q (k := k) h hab hb hm hk).2
  have h3 := (tailF_q (k := k) h hab hb hm (by omega)).2
  rw [rep_add h1 h2, ← h3.made]
  refine madeZ_cong (Nat.mul_pos h1.1 h2.1) h3.1 ?_
  rw [tl_le hk]
  push_cast
  generalize ((b : Int) ^ m) = D
  grind
theorem cmpF_same {x : F} (h : ValidF x) : cmpF x x = (0, 0) := by
  have he := h.eq
  have hk := h.2.2
  have hr := rep_of_ok hk
  rw [← he] at hr
  rw [rep_cmp hr hr, if_neg (by omega), if_pos rfl]
open Go.RowKit in
theorem after_new2 {wi w2 : World} {cs cs' : Array Value} {t t' : TypeId} (hb : Below ((wi.alloc (.cells cs t)).alloc (.cells cs' t')).heap.size ((wi.alloc (.cells cs t)).alloc (.cells cs' t')) w2) :
    Below wi.heap.size wi w2 ∧ Box w2 wi.heap.size cs t ∧ Box w2 (wi.heap.size + 1) cs' t' := by
  obtain ⟨h1, c2⟩ := after_new hb
  obtain ⟨h0, c1⟩ := after_new h1
  exact ⟨h0, c1, by simpa using c2⟩
end Go.Proofs.Ytebmegodeglobaa

namespace Go.Proofs.Ytebmegodeglobaa

/-- The sum of f 0 .. f (n - 1). -/
def sm : Nat → (Nat → Nat) → Nat
  | 0, _ => 0
  | n + 1, f => sm n f + f n
theorem sm_congr {n : Nat} {f g : Nat → Nat} (h : ∀ i, i < n → f i = g i) : sm n f = sm n g := by
  induction n with
  | zero => rfl
  | succ n ih => rw [sm, sm, ih fun i hi => h i (by omega), h n (by omega)]
theorem sm_zero {n : Nat} {f : Nat → Nat} (h : ∀ i, i < n → f i = 0) : sm n f = 0 := by
  induction n with
  | zero => rfl
  | succ n ih => rw [sm, ih fun i hi => h i (by omega), h n (by omega)]
theorem sm_add (n : Nat) (f g : Nat → Nat) : sm n (fun i => f i + g i) = sm n f + sm n g := by
  induction n with
  | zero => rfl
  | succ n ih => simp only [sm]; rw [ih]; omega
theorem sm_mul (n c : Nat) (f : Nat → Nat) : sm n (fun i => f i * c) = sm n f * c := by
  induction n with
  | zero => simp [sm]
  | succ n ih => simp only [sm]; rw [ih, Nat.add_mul]
theorem sm_front (n : Nat) (f : Nat → Nat) : sm (n + 1) f = f 0 + sm n (fun i => f (i + 1)) := by
  induction n with
  | zero => simp [sm]
  | succ n ih => rw [sm, ih]; simp only [sm]; omega
theorem sm_rev (n : Nat) (f : Nat → Nat) : sm n (fun i => f (n - 1 - i)) = sm n f := by
  induction n with
  | zero => rfl
  | succ n ih =>
    rw [sm_front n (fun i => f (n + 1 - 1 - i))]
    have : sm n (fun i => f (n + 1 - 1 - (i + 1))) = sm n f := by
      rw [← ih]
      exact sm_congr fun i hi => by rw [show n + 1 - 1 - (i + 1) = n - 1 - i by omega]
    rw [this, sm]
    simp
    omega
theorem sm_more {n m : Nat} {f : Nat → Nat} (hnm : n ≤ m) (h : ∀ i, n ≤ i → i < m → f i = 0) : sm m f = sm n f := by
  induction m with
  | zero => rw [show n = 0 by omega]
  | succ m ih =>
    rcases Nat.lt_or_eq_of_le hnm with h1 | h1
    · rw [sm, ih (by omega) fun i hi hj => h i hi (by omega), h m (by omega) (by omega), Nat.add_zero]
    · rw [h1]
theorem sm_le {n : Nat} {f g : Nat → Nat} (h : ∀ i, i < n → f i ≤ g i) : sm n f ≤ sm n g := by
  induction n with
  | zero => exact Nat.le_refl _
  | succ n ih => rw [sm, sm]; exact Nat.add_le_add (ih fun i hi => h i (by omega)) (h n (by omega))
theorem sm_one {n k : Nat} {f : Nat → Nat} (h : k < n) : f k ≤ sm n f := by
  induction n with
  | zero => omega
  | succ n ih =>
    rw [sm]
    rcases Nat.lt_or_eq_of_le (Nat.le_of_lt_succ h) with h1 | h1
    · have := ih h1; omega
    · subst h1; omega
/-- What j values of e have made of g at place k: the order of the program. -/
def cvA (g e : Nat → Nat) (j k : Nat) : Nat := sm j fun i => if i ≤ k then g (k - i) * e i else 0
/-- .. what i values of g have made with e at place k: the order of the reference. -/
def cvB (g e : Nat → Nat) (i k : Nat) : Nat := sm i fun j => if j ≤ k then g j * e (k - j) else 0
theorem cvA_succ (g e : Nat → Nat) (j k : Nat) : cvA g e (j + 1) k = cvA g e j k + if j ≤ k then g (k - j) * e j else 0 := rfl
theorem cvB_succ (g e : Nat → Nat) (i k : Nat) : cvB g e (i + 1) k = cvB g e i k + if i ≤ k then g i * e (k - i) else 0 := rfl
theorem cvA_all {g e : Nat → Nat} {w : Nat} (he : ∀ j, w < j → e j = 0) (k : Nat) : cvA g e (w + 1) k = sm (k + 1) fun i => g (k - i) * e i := by
  unfold cvA
  rcases Nat.le_total k w with h | h
  · rw [sm_more (n := k + 1) (m := w + 1) (by omega) fun i h1 h2 => if_neg (by omega)]
    exact sm_congr fun i hi => if_pos (by omega)
  · rw [← sm_more (n := w + 1) (m := k + 1) (by omega) (f := fun i => if i ≤ k then g (k - i) * e i else 0) fun i h1 h2 => by rw [he i (by omega)]; simp]
    exact sm_congr fun i hi => if_pos (by omega)
theorem cvB_all {g e : Nat → Nat} {n : Nat} (hg : ∀ i, n < i → g i = 0) (k : Nat) : cvB g e (n + 1) k = sm (k + 1) fun i => g i * e (k - i) := by
  unfold cvB
  rcases Nat.le_total k n with h | h
  · rw [sm_more (n := k + 1) (m := n + 1) (by omega) fun i h1 h2 => if_neg (by omega)]
    exact sm_congr fun i hi => if_pos (by omega)
  · rw [← sm_more (n := n + 1) (m := k + 1) (by omega) (f := fun j => if j ≤ k then g j * e (k - j) else 0) fun i h1 h2 => by rw [hg i (by omega)]; simp]
    exact sm_congr fun i hi => if_pos (by omega)
theorem cv_eq {g e : Nat → Nat} {w n : Nat} (he : ∀ j, w < j → e j = 0) (hg : ∀ i, n < i → g i = 0) (k : Nat) : cvA g e (w + 1) k = cvB g e (n + 1) k := by
  rw [cvA_all he, cvB_all hg, ← sm_rev (k + 1) fun i => g i * e (k - i)]
  exact sm_congr fun i hi => by
    show g (k - i) * e i = g (k + 1 - 1 - i) * e (k - (k + 1 - 1 - i))
    rw [show k + 1 - 1 - i = k - i by omega, show k - (k - i) = i by omega]
theorem cvA_far {g e : Nat → Nat} {n j k : Nat} (hg : ∀ i, n < i → g i = 0) (h : n + j ≤ k) : cvA g e j k = 0 := by
  unfold cvA
  refine sm_zero fun i hi => ?_
  split
  · rw [hg _ (by omega), Nat.zero_mul]
  · rfl
/-- All together. -/
theorem cvA_sum {g e : Nat → Nat} {n N : Nat} (hg : ∀ i, n < i → g i = 0) : ∀ j, n + j ≤ N + 1 → sm (N + 1) (fun k => cvA g e j k) = sm (n + 1) g * sm j e
  | 0, _ => by rw [show sm 0 e = 0 from rfl, Nat.mul_zero]; exact sm_zero fun _ _ => rfl
  | j + 1, hj => by
    have e1 : sm (N + 1) (fun k => cvA g e (j + 1) k) = sm (N + 1) (fun k => cvA g e j k) + sm (N + 1) (fun k => if j ≤ k then g (k - j) * e j else 0) := by
      rw [← sm_add]; exact sm_congr fun k _ => cvA_succ g e j k
    have e2 : sm (j + 1) e = sm j e + e j := rfl
    rw [e1, cvA_sum hg j (by omega), e2, Nat.mul_add]
    congr 1
    have shift : ∀ d M, j + d = M → sm M (fun k => if j ≤ k then g (k - j) * e j else 0) = sm d (fun i => g i * e j) := by
      intro d
      induction d with
      | zero =>
        intro M hM
        rw [← hM, Nat.add_zero]
        exact sm_zero fun i hi => if_neg (by omega)
      | succ d ih =>
        intro M hM
        rw [← hM, show j + (d + 1) = (j + d) + 1 by omega, sm, ih (j + d) rfl, sm, if_pos (by omega), Nat.add_sub_cancel_left]
    rw [shift (N + 1 - j) (N + 1) (by omega), sm_more (n := n + 1) (m := N + 1 - j) (by omega) fun i h1 h2 => by rw [hg i (by omega), Nat.zero_mul], sm_mul]
theorem tl_sm (a c w : Nat) : ∀ d k, k + d = w + 1 → tl a c w k = sm d (fun i => ex a c w (k + i))
  | 0, k, h => by rw [tl_gt (by omega)]; rfl
  | d + 1, k, h => by
    rw [tl_le (by omega), tl_sm a c w d (k + 1) (by omega), sm_front, Nat.add_zero]
    congr 1
    exact sm_congr fun i _ => by rw [show k + 1 + i = k + (i + 1) by omega]
theorem ex_all (a c w : Nat) : sm (w + 1) (ex a c w) = (a + c) ^ w := by
  rw [← tl_all a c w, tl_sm a c w (w + 1) 0 (by omega)]
  exact sm_congr fun i _ => by rw [Nat.zero_add]

/-- The size of wave r. -/
noncomputable def wv (R : Ro) (r : Nat) : Nat := cum R (r + 1) - cum R r
/-- How likely it is that it has gone on behind r waves with k failures, over (a + c) ^ cum R r. -/
noncomputable def gN (R : Ro) (a c : Nat) : Nat → Nat → Nat
  | 0, k => if k = 0 then 1 else 0
  | r + 1, k => if k < mOf R (cum R (r + 1)) then cvA (gN R a c r) (ex a c (wv R r)) (wv R r + 1) k else 0
/-- .. with k failures behind wave r, before the boundary is looked at. -/
noncomputable def nN (R : Ro) (a c r k : Nat) : Nat := cvA (gN R a c r) (ex a c (wv R r)) (wv R r + 1) k
/-- How likely it is that it has stopped. -/
noncomputable def gS (R : Ro) (a c : Nat) : Nat → Nat
  | 0 => 0
  | r + 1 => gS R a c r * (a + c) ^ wv R r + sm (cum R (r + 1) + 1) fun k => if k < mOf R (cum R (r + 1)) then 0 else nN R a c r k
theorem gN_succ (R : Ro) (a c r k : Nat) : gN R a c (r + 1) k = if k < mOf R (cum R (r + 1)) then nN R a c r k else 0 := rfl
theorem cum_wv {R : Ro} (h : ValidR R) {r : Nat} (hr : r < R.waves.length) : cum R r + wv R r = cum R (r + 1) ∧ 0 < wv R r := by
  unfold wv
  obtain ⟨e1, e2, e3⟩ := cum_succ h hr
  omega
theorem gN_far {R : Ro} (h : ValidR R) (a c : Nat) : ∀ {r : Nat}, r ≤ R.waves.length → ∀ k, cum R r < k → gN R a c r k = 0
  | 0, _, k, hk => by rw [cum_zero] at hk; exact if_neg (by omega)
  | r + 1, hr, k, hk => by
    rw [gN_succ]
    split
    · have := cum_wv h (show r < R.waves.length by omega)
      exact cvA_far (fun i hi => gN_far h a c (by omega) i hi) (by omega)
    · rfl
theorem nN_far {R : Ro} (h : ValidR R) (a c : Nat) {r : Nat} (hr : r < R.waves.length) {k : Nat} (hk : cum R (r + 1) < k) : nN R a c r k = 0 := by
  have := cum_wv h hr
  exact cvA_far (fun i hi => gN_far h a c (by omega) i hi) (by omega)
/-- It has gone on or it has stopped. -/
theorem gN_gS {R : Ro} (h : ValidR R) (a c : Nat) : ∀ {r : Nat}, r ≤ R.waves.length → sm (cum R r + 1) (gN R a c r) + gS R a c r = (a + c) ^ cum R r
  | 0, _ => by rw [cum_zero]; rfl
  | r + 1, hr => by
    have hw := cum_wv h (show r < R.waves.length by omega)
    have ih := gN_gS h a c (r := r) (by omega)
    have hs : sm (cum R (r + 1) + 1) (fun k => nN R a c r k) = sm (cum R r + 1) (gN R a c r) * sm (wv R r + 1) (ex a c (wv R r)) :=
      cvA_sum (fun i hi => gN_far h a c (by omega) i hi) _ (by omega)
    rw [ex_all] at hs
    have hsplit : sm (cum R (r + 1) + 1) (gN R a c (r + 1)) + sm (cum R (r + 1) + 1) (fun k => if k < mOf R (cum R (r + 1)) then 0 else nN R a c r k) = sm (cum R (r + 1) + 1) (fun k => nN R a c r k) := by
      rw [← sm_add]
      refine sm_congr fun k _ => ?_
      rw [gN_succ]
      split <;> omega
    have e : (a + c) ^ cum R (r + 1) = (a + c) ^ cum R r * (a + c) ^ wv R r := by rw [← hw.1, Nat.pow_add]
    rw [e, ← ih, Nat.add_mul, ← hs, ← hsplit]
    show _ + (_ + _) = _
    ac_rfl
/-- The chance that it stops, as a fraction. -/
noncomputable def FQ (z d : Nat) : F := (madeZ (z : Int) d).1
theorem fq_rep {z d : Nat} (hd : 0 < d) (hz : (limbs z).length ≤ 32) (hdl : (limbs d).length ≤ 32) : madeZ (z : Int) d = (FQ z d, 0) ∧ Rep (FQ z d) z d := by
  obtain ⟨x, h1, h2⟩ := rep_of_made (z := (z : Int)) hd (by rw [Int.natAbs_natCast]; exact hz) hdl
  unfold FQ
  rw [h1]
  exact ⟨rfl, h2⟩
theorem fq_add {z z' d : Nat} (hd : 0 < d) (hz : (limbs (z + z')).length ≤ 32) (hdl : (limbs d).length ≤ 32) : opF sumN (FQ z d) (FQ z' d) = (FQ (z + z') d, 0) := by
  have hz1 : (limbs z).length ≤ 32 := Nat.le_trans (limbs_len_mono (Nat.le_add_right z z')) hz
  have hz2 : (limbs z').length ≤ 32 := Nat.le_trans (limbs_len_mono (Nat.le_add_left z' z)) hz
  rw [rep_add (fq_rep hd hz1 hdl).2 (fq_rep hd hz2 hdl).2, ← (fq_rep hd hz hdl).1]
  refine madeZ_cong (Nat.mul_pos hd hd) hd ?_
  push_cast
  grind
theorem fq_mul {z z' d d' : Nat} (hd : 0 < d) (hd' : 0 < d') (hz : (limbs z).length ≤ 32) (hz' : (limbs z').length ≤ 32) (hdl : (limbs d).length ≤ 32) (hdl' : (limbs d').length ≤ 32) (h1 : (limbs (z * z')).length ≤ 32) (h2 : (limbs (d * d')).length ≤ 32) :
    opF mulN (FQ z d) (FQ z' d') = (FQ (z * z') (d * d'), 0) := by
  rw [rep_mul (fq_rep hd hz hdl).2 (fq_rep hd' hz' hdl').2, ← (fq_rep (Nat.mul_pos hd hd') h1 h2).1]
  push_cast
  rfl
theorem fq_scale {z d t : Nat} (hd : 0 < d) (ht : 0 < t) : FQ (z * t) (d * t) = FQ z d := by
  unfold FQ
  rw [madeZ_cong (Nat.mul_pos hd ht) hd (z := ((z * t : Nat) : Int)) (z' := (z : Int)) (by push_cast; grind)]
open Classical in
/-- What Chance returns. -/
noncomputable def chanceF (R : Ro) (p : F) : F × Int :=
  if ¬ ValidR R ∨ rateE p = 1 then (F0, 1) else if rateE p = 0 then (FQ (gS R (val p.num) (val p.den - val p.num) R.waves.length) (val p.den ^ cum R R.waves.length), 0) else (F0, 2)
end Go.Proofs.Ytebmegodeglobaa

namespace Go.Proofs.Ytebmegodeglobaa

/-- Behind r waves the map bears the keys below this. -/
noncomputable def dN (R : Ro) : Nat → Nat
  | 0 => 1
  | r + 1 => if dN R r = 0 then 0 else min (mOf R (cum R (r + 1))) (dN R r + wv R r)
theorem dN_le {R : Ro} : ∀ r, r ≤ R.waves.length → ValidR R → dN R r ≤ cum R r + 1
  | 0, _, _ => by rw [cum_zero]; exact Nat.le_refl _
  | r + 1, hr, hv => by
    have ih := dN_le r (by omega) hv
    have hw := (cum_wv hv (r := r) (by omega)).1
    rw [dN]
    split
    · omega
    · have : min (mOf R (cum R (r + 1))) (dN R r + wv R r) ≤ dN R r + wv R r := Nat.min_le_right _ _
      omega
/-- .. and nothing is likely beyond them. -/
theorem gN_dN (R : Ro) (a c : Nat) : ∀ r k, dN R r ≤ k → gN R a c r k = 0
  | 0, k, h => if_neg (by rw [dN] at h; omega)
  | r + 1, k, h => by
    rw [gN_succ]
    split
    · rename_i hm
      unfold nN
      rw [dN] at h
      split at h
      · rename_i h0
        unfold cvA
        refine sm_zero fun i _ => ?_
        show (if i ≤ k then gN R a c r (k - i) * ex a c (wv R r) i else 0) = 0
        rw [gN_dN R a c r (k - i) (by omega), Nat.zero_mul, ite_self]
      · rename_i h0
        refine cvA_far (n := dN R r - 1) (fun i hi => gN_dN R a c r i (by omega)) ?_
        have : ¬ (mOf R (cum R (r + 1)) ≤ k) := by omega
        rcases Nat.le_total (mOf R (cum R (r + 1))) (dN R r + wv R r) with h1 | h1
        · rw [Nat.min_eq_left h1] at h; omega
        · rw [Nat.min_eq_right h1] at h; omega
    · rfl
/-- What the map bears behind r waves. -/
noncomputable def goingF (R : Ro) (a c r k : Nat) : Option F := if k < dN R r then some (FQ (gN R a c r k) ((a + c) ^ cum R r)) else none
theorem goingF_yes {R : Ro} {a c r k : Nat} (h : k < dN R r) : goingF R a c r k = some (FQ (gN R a c r k) ((a + c) ^ cum R r)) := if_pos h
theorem goingF_no {R : Ro} {a c r k : Nat} (h : dN R r ≤ k) : goingF R a c r k = none := if_neg (by omega)

/-- Within a wave: the terms of the values below j, and of value j at the keys already met. -/
def partN (g e : Nat → Nat) (j : Nat) (vis : Nat → Bool) (i : Nat) : Nat := cvA g e j i + if j ≤ i ∧ vis (i - j) = true then g (i - j) * e j else 0
/-- .. and the keys that stand by then. -/
def partHas (D j : Nat) (vis : Nat → Bool) (i : Nat) : Prop := (0 < j ∧ i + 1 < D + j) ∨ (j ≤ i ∧ vis (i - j) = true)
theorem partN_none (g e : Nat → Nat) (j i : Nat) : partN g e j (fun _ => false) i = cvA g e j i := by
  unfold partN
  rw [if_neg (by simp), Nat.add_zero]
theorem partN_all {g e : Nat → Nat} {D j i : Nat} {vis : Nat → Bool} (hv : ∀ k, k < D → vis k = true) (hg : ∀ k, D ≤ k → g k = 0) : partN g e j vis i = cvA g e (j + 1) i := by
  rw [cvA_succ]
  unfold partN
  congr 1
  by_cases h : j ≤ i
  · by_cases hd : i - j < D
    · rw [if_pos ⟨h, hv _ hd⟩, if_pos h]
    · rw [hg (i - j) (by omega), Nat.zero_mul, ite_self, ite_self]
  · rw [if_neg (fun hh => h hh.1), if_neg h]
/-- One key more. -/
theorem partN_step {g e : Nat → Nat} {j k : Nat} {vis : Nat → Bool} (hk : vis k = false) (i : Nat) : partN g e j (fun x => decide (x = k) || vis x) i = partN g e j vis i + if i = k + j then g k * e j else 0 := by
  unfold partN
  by_cases hi : i = k + j
  · subst hi
    simp [hk]
  · by_cases hj : j ≤ i
    · have hne : i - j ≠ k := by omega
      simp [hi, hne]
    · simp [hi, hj]
theorem partHas_none {D j i : Nat} : partHas D j (fun _ => false) i ↔ 0 < j ∧ i + 1 < D + j := by unfold partHas; simp
theorem partHas_all {D j i : Nat} {vis : Nat → Bool} (hD : 0 < D) (hv : ∀ k, vis k = true ↔ k < D) : partHas D j vis i ↔ i + 1 < D + (j + 1) := by
  unfold partHas
  rw [hv]
  omega
theorem partHas_step {D j k i : Nat} {vis : Nat → Bool} : partHas D j (fun x => decide (x = k) || vis x) i ↔ i = k + j ∨ partHas D j vis i := by
  unfold partHas
  by_cases hj : j ≤ i
  · by_cases hi : i - j = k
    · have : i = k + j := by omega
      simp [this]
    · have : i ≠ k + j := by omega
      simp [hj, hi, this]
  · have : i ≠ k + j := by omega
    simp [hj, this]

/-- What has been put to the stopped within a wave: all at m and beyond. -/
def partS (g e : Nat → Nat) (N m j : Nat) (vis : Nat → Bool) : Nat := sm N fun i => if i < m then 0 else partN g e j vis i
theorem sm_at {N t x : Nat} (ht : t < N) : sm N (fun i => if i = t then x else 0) = x := by
  induction N with
  | zero => omega
  | succ N ih =>
    rw [sm]
    rcases Nat.lt_or_eq_of_le (Nat.le_of_lt_succ ht) with h | h
    · rw [ih h, if_neg (by omega), Nat.add_zero]
    · subst h
      rw [sm_zero fun i hi => if_neg (by omega), if_pos rfl, Nat.zero_add]
theorem partS_stop {g e : Nat → Nat} {N m j k : Nat} {vis : Nat → Bool} (hk : vis k = false) (h : m ≤ k + j) (hN : k + j < N) : partS g e N m j (fun x => decide (x = k) || vis x) = partS g e N m j vis + g k * e j := by
  unfold partS
  rw [← sm_at (x := g k * e j) hN, ← sm_add]
  refine sm_congr fun i _ => ?_
  rw [partN_step hk]
  by_cases hi : i = k + j
  · subst hi
    rw [if_neg (show ¬ (k + j < m) by omega), if_neg (show ¬ (k + j < m) by omega), if_pos rfl]
  · by_cases hm : i < m
    · rw [if_pos hm, if_pos hm, if_neg hi]
    · rw [if_neg hm, if_neg hm, if_neg hi]
theorem partS_go {g e : Nat → Nat} {N m j k : Nat} {vis : Nat → Bool} (hk : vis k = false) (h : k + j < m) : partS g e N m j (fun x => decide (x = k) || vis x) = partS g e N m j vis := by
  unfold partS
  refine sm_congr fun i _ => ?_
  rw [partN_step hk]
  by_cases hm : i < m
  · rw [if_pos hm, if_pos hm]
  · rw [if_neg hm, if_neg hm, if_neg (by omega), Nat.add_zero]
theorem partS_zero (g e : Nat → Nat) (N m : Nat) : partS g e N m 0 (fun _ => false) = 0 := by
  unfold partS
  refine sm_zero fun i _ => ?_
  rw [partN_none]
  show (if i < m then 0 else cvA g e 0 i) = 0
  split <;> rfl
theorem partS_all {g e : Nat → Nat} {N m D j : Nat} {vis : Nat → Bool} (hv : ∀ k, k < D → vis k = true) (hg : ∀ k, D ≤ k → g k = 0) : partS g e N m j vis = partS g e N m (j + 1) (fun _ => false) := by
  unfold partS
  exact sm_congr fun i _ => by rw [partN_all hv hg, partN_none]
/-- Behind the wave. -/
theorem gS_part (R : Ro) (a c r : Nat) : gS R a c (r + 1) = gS R a c r * (a + c) ^ wv R r + partS (gN R a c r) (ex a c (wv R r)) (cum R (r + 1) + 1) (mOf R (cum R (r + 1))) (wv R r + 1) (fun _ => false) := by
  rw [gS]
  congr 1
  unfold partS
  exact sm_congr fun k _ => by rw [partN_none]; rfl
end Go.Proofs.Ytebmegodeglobaa
