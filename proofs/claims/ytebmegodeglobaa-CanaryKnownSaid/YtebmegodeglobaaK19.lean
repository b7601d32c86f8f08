/- Canary, plain: the map of Chance within a wave, value by value and key by key; how great the numbers are.
   Walks of the library: slices.Clone of ints and of bools.
   Walks of package canary: the boundaries of a rollout, yielded one by one.
   Memory words, more: a variable that collects ints; what lies elsewhere is kept. -/
import Derived.Test.YtebmegodeglobaaK18
import Derived.Test.YtebmegodeglobaaK10
import Derived.Test.YtebmegodeglobaaK17
import Derived.TacticsIn
import Derived.BigFrameIn
import Derived.OwnWalkIn
import Derived.TacticsInMore
import Derived.LoopNIn
import Derived.LoopIn
set_option linter.unusedVariables false
namespace Go.Proofs.Ytebmegodeglobaa

theorem partN_zero {g e : Nat → Nat} {D j i : Nat} {vis : Nat → Bool} (hD : 0 < D) (hg : ∀ k, D ≤ k → g k = 0) (h : ¬ partHas D j vis i) : partN g e j vis i = 0 := by
  unfold partHas at h
  unfold partN
  rw [if_neg (fun hh => h (.inr hh)), Nat.add_zero]
  rcases Nat.eq_zero_or_pos j with h0 | h0
  · subst h0; rfl
  · exact cvA_far (n := D - 1) (fun i hi => hg i (by omega)) (by omega)
open Classical in
/-- What the next map bears within a wave. -/
noncomputable def partF (g e : Nat → Nat) (D m d j : Nat) (vis : Nat → Bool) (i : Nat) : Option F := if 0 < D ∧ partHas D j vis i ∧ i < m then some (FQ (partN g e j vis i) d) else none
theorem partF_start (g e : Nat → Nat) (D m d i : Nat) : partF g e D m d 0 (fun _ => false) i = none := by
  unfold partF
  rw [if_neg]
  rintro ⟨_, h, _⟩
  rw [partHas_none] at h
  omega
theorem partF_stop {g e : Nat → Nat} {D m d j k : Nat} {vis : Nat → Bool} (hk : vis k = false) (h : m ≤ k + j) (i : Nat) : partF g e D m d j (fun x => decide (x = k) || vis x) i = partF g e D m d j vis i := by
  unfold partF
  by_cases hi : i = k + j
  · rw [if_neg (by omega), if_neg (by omega)]
  · have e1 : partHas D j (fun x => decide (x = k) || vis x) i ↔ partHas D j vis i := by rw [partHas_step]; simp [hi]
    rw [partN_step hk, if_neg hi, Nat.add_zero]
    by_cases hc : 0 < D ∧ partHas D j vis i ∧ i < m
    · rw [if_pos hc, if_pos ⟨hc.1, e1.2 hc.2.1, hc.2.2⟩]
    · rw [if_neg hc, if_neg (fun hh => hc ⟨hh.1, e1.1 hh.2.1, hh.2.2⟩)]
/-- One key more that goes on. -/
theorem partF_go {g e : Nat → Nat} {D m d j k : Nat} {vis : Nat → Bool} (hD : 0 < D) (hk : vis k = false) (h : k + j < m) (i : Nat) :
    partF g e D m d j (fun x => decide (x = k) || vis x) i = if i = k + j then some (FQ (partN g e j vis (k + j) + g k * e j) d) else partF g e D m d j vis i := by
  unfold partF
  by_cases hi : i = k + j
  · subst hi
    rw [if_pos rfl, if_pos ⟨hD, partHas_step.2 (.inl rfl), h⟩, partN_step hk, if_pos rfl]
  · have e1 : partHas D j (fun x => decide (x = k) || vis x) i ↔ partHas D j vis i := by rw [partHas_step]; simp [hi]
    rw [if_neg hi, partN_step hk, if_neg hi, Nat.add_zero]
    by_cases hc : 0 < D ∧ partHas D j vis i ∧ i < m
    · rw [if_pos hc, if_pos ⟨hc.1, e1.2 hc.2.1, hc.2.2⟩]
    · rw [if_neg hc, if_neg (fun hh => hc ⟨hh.1, e1.1 hh.2.1, hh.2.2⟩)]
theorem partF_some {g e : Nat → Nat} {D m d j i : Nat} {vis : Nat → Bool} {x : F} (h : partF g e D m d j vis i = some x) : x = FQ (partN g e j vis i) d := by
  unfold partF at h
  split at h
  · exact (Option.some.inj h).symm
  · cases h
theorem partF_none {g e : Nat → Nat} {D m d j i : Nat} {vis : Nat → Bool} (hD : 0 < D) (hg : ∀ k, D ≤ k → g k = 0) (hi : i < m) (h : partF g e D m d j vis i = none) : partN g e j vis i = 0 := by
  refine partN_zero hD hg fun hh => ?_
  unfold partF at h
  rw [if_pos ⟨hD, hh, hi⟩] at h
  cases h
theorem partF_all {g e : Nat → Nat} {D m d j i : Nat} {vis : Nat → Bool} (hv : ∀ k, vis k = true ↔ k < D) (hg : ∀ k, D ≤ k → g k = 0) : partF g e D m d j vis i = partF g e D m d (j + 1) (fun _ => false) i := by
  unfold partF
  by_cases hD : 0 < D
  · rw [partN_all (fun k hk => (hv k).2 hk) hg, partN_none]
    have e1 : partHas D j vis i ↔ partHas D (j + 1) (fun _ => false) i := by
      rw [partHas_all hD hv, partHas_none]; omega
    by_cases hc : 0 < D ∧ partHas D j vis i ∧ i < m
    · rw [if_pos hc, if_pos ⟨hc.1, e1.1 hc.2.1, hc.2.2⟩]
    · rw [if_neg hc, if_neg (fun hh => hc ⟨hh.1, e1.2 hh.2.1, hh.2.2⟩)]
  · rw [if_neg (fun h => hD h.1), if_neg (fun h => hD h.1)]
theorem partF_end {R : Ro} {a c r : Nat} (hw : cum R r + wv R r = cum R (r + 1)) (i : Nat) :
    partF (gN R a c r) (ex a c (wv R r)) (dN R r) (mOf R (cum R (r + 1))) ((a + c) ^ cum R (r + 1)) (wv R r + 1) (fun _ => false) i = goingF R a c (r + 1) i := by
  unfold partF goingF
  have e1 : (0 < dN R r ∧ partHas (dN R r) (wv R r + 1) (fun _ => false) i ∧ i < mOf R (cum R (r + 1))) ↔ i < dN R (r + 1) := by
    rw [dN, partHas_none]
    split <;> omega
  by_cases hc : i < dN R (r + 1)
  · rw [if_pos (e1.2 hc), if_pos hc, gN_succ, if_pos (e1.2 hc).2.2, partN_none]
    rfl
  · rw [if_neg (fun h => hc (e1.1 h)), if_neg hc]

theorem sm_mono {n : Nat} {f : Nat → Nat} : ∀ {m : Nat}, n ≤ m → sm n f ≤ sm m f
  | 0, h => by rw [show n = 0 by omega]; exact Nat.le_refl _
  | m + 1, h => by
    rcases Nat.lt_or_eq_of_le h with h1 | h1
    · rw [sm]; exact Nat.le_trans (sm_mono (by omega)) (Nat.le_add_right _ _)
    · rw [h1]; exact Nat.le_refl _
theorem cvA_mono {g e : Nat → Nat} {j j' : Nat} (h : j ≤ j') (k : Nat) : cvA g e j k ≤ cvA g e j' k := sm_mono h
theorem partN_le {g e : Nat → Nat} {j w : Nat} {vis : Nat → Bool} (hj : j ≤ w) (i : Nat) : partN g e j vis i ≤ cvA g e (w + 1) i := by
  have h1 : partN g e j vis i ≤ cvA g e (j + 1) i := by
    rw [cvA_succ]
    unfold partN
    refine Nat.add_le_add_left ?_ _
    by_cases h : j ≤ i ∧ vis (i - j) = true
    · rw [if_pos h, if_pos h.1]; exact Nat.le_refl _
    · rw [if_neg h]; exact Nat.zero_le _
  exact Nat.le_trans h1 (cvA_mono (by omega) i)
section
variable {R : Ro} {a c r : Nat}
theorem nN_sum (h : ValidR R) (a c : Nat) (hr : r < R.waves.length) : sm (cum R (r + 1) + 1) (fun k => nN R a c r k) + gS R a c r * (a + c) ^ wv R r = (a + c) ^ cum R (r + 1) := by
  have hw := cum_wv h hr
  have hs : sm (cum R (r + 1) + 1) (fun k => nN R a c r k) = sm (cum R r + 1) (gN R a c r) * sm (wv R r + 1) (ex a c (wv R r)) :=
    cvA_sum (fun i hi => gN_far h a c (by omega) i hi) _ (by omega)
  rw [ex_all] at hs
  rw [hs, ← Nat.add_mul, gN_gS h a c (by omega), ← hw.1, Nat.pow_add]
/-- Every part of the next map is at most the whole. -/
theorem partN_bound (h : ValidR R) (a c : Nat) (hr : r < R.waves.length) {j : Nat} (hj : j ≤ wv R r) (vis : Nat → Bool) (i : Nat) : partN (gN R a c r) (ex a c (wv R r)) j vis i ≤ (a + c) ^ cum R (r + 1) := by
  refine Nat.le_trans (partN_le hj i) ?_
  rcases Nat.lt_or_ge i (cum R (r + 1) + 1) with h1 | h1
  · have h2 : nN R a c r i ≤ sm (cum R (r + 1) + 1) (fun k => nN R a c r k) := sm_one (f := fun k => nN R a c r k) h1
    have h3 := nN_sum h a c hr
    have h4 : cvA (gN R a c r) (ex a c (wv R r)) (wv R r + 1) i = nN R a c r i := rfl
    omega
  · have h4 : cvA (gN R a c r) (ex a c (wv R r)) (wv R r + 1) i = nN R a c r i := rfl
    rw [h4, nN_far h a c hr (by omega)]
    exact Nat.zero_le _
theorem partS_bound (h : ValidR R) (a c : Nat) (hr : r < R.waves.length) {j : Nat} (hj : j ≤ wv R r) (vis : Nat → Bool) (m : Nat) :
    gS R a c r * (a + c) ^ wv R r + partS (gN R a c r) (ex a c (wv R r)) (cum R (r + 1) + 1) m j vis ≤ (a + c) ^ cum R (r + 1) := by
  have h1 : partS (gN R a c r) (ex a c (wv R r)) (cum R (r + 1) + 1) m j vis ≤ sm (cum R (r + 1) + 1) (fun k => nN R a c r k) := by
    unfold partS
    refine sm_le fun i _ => ?_
    show (if i < m then 0 else partN (gN R a c r) (ex a c (wv R r)) j vis i) ≤ nN R a c r i
    split
    · exact Nat.zero_le _
    · exact partN_le hj i
  have h2 := nN_sum h a c hr
  omega
theorem gN_bound (h : ValidR R) (a c : Nat) (hr : r ≤ R.waves.length) (k : Nat) : gN R a c r k ≤ (a + c) ^ cum R r := by
  have h3 := gN_gS h a c hr
  rcases Nat.lt_or_ge k (cum R r + 1) with h1 | h1
  · have h2 : gN R a c r k ≤ sm (cum R r + 1) (gN R a c r) := sm_one h1
    omega
  · rw [gN_far h a c hr k (by omega)]; exact Nat.zero_le _
/-- Powers of a rate's denominator are short. -/
theorem pow_short {b n z : Nat} (hb : b ≤ 1000) (hn : n ≤ 16) (hz : z ≤ b ^ n) : (limbs z).length ≤ 32 :=
  Nat.le_trans (limbs_len_mono hz) (Nat.le_trans (pow_limbs hb (by omega)) (by omega))
end
end Go.Proofs.Ytebmegodeglobaa

namespace Go.Proofs.Ytebmegodeglobaa
open Go.RowKit

/-- The slice v lies in memory from block B on. -/
def FreshFrom (B : Nat) (v : Value) : Prop := ∀ a n c, v = .slice (some a) n c → B ≤ a.block
theorem FreshFrom.nil (B : Nat) : FreshFrom B (.slice none 0 0) := fun a n c h => by cases h
theorem SlV.of_own {w : World} {base n : Nat} {t : TypeId} {v : Value} {cs : List Value} (h : w.ownsRow base t 1 v n cs) : SlV w v cs ∧ FreshFrom base v := by
  obtain ⟨h1, h2⟩ := h
  have hn : n = cs.length := by simpa using h1.symm
  subst hn
  rcases h2 with ⟨rfl, h0⟩ | ⟨g, cap, cur, rfl, hge, hg, h3, h4, h5, h6⟩
  · have : cs = [] := List.length_eq_zero_iff.1 h0
    subst this
    exact ⟨SlV.nil w, FreshFrom.nil _⟩
  · refine ⟨⟨some ⟨g, 0, none⟩, cap, rfl, h3, by simpa [maxLen] using h4, (fun h => by cases h), fun _ => ⟨g, 0, rfl, (Array.getElem?_eq_some_iff.1 hg).1, fun i c hi => ?_⟩⟩, fun a n c e => by injection e with e _ _; injection e with e; subst e; exact hge⟩
    have hl : i < cs.length := by
      rcases Nat.lt_or_ge i cs.length with h | h
      · exact h
      · rw [List.getElem?_eq_none h] at hi; cases hi
    rw [Nat.zero_add, cell_of_row w g i cur _ (0, 0) hg, ← Array.getElem?_toList]
    have h7 : (cur.toList.take (cs.length * 1))[i]? = cs[i]? := by rw [h6]
    rw [List.getElem?_take, if_pos (by omega)] at h7
    rw [h7, hi]
/-- A store elsewhere. -/
theorem SlV.setLow {w : World} {v : Value} {cs : List Value} {B : Nat} (h : SlV w v cs) (hf : FreshFrom B v) {p : Addr} (hp : p.block < B) (u : Value) : SlV (w.setCell p u) v cs := by
  obtain ⟨a, cap, h1, h2, h3, h4, h5⟩ := h
  refine ⟨a, cap, h1, h2, h3, h4, fun hl => ?_⟩
  obtain ⟨b, off, e, hlt, hc⟩ := h5 hl
  subst e
  have hB := hf _ _ _ h1
  simp only at hB
  refine ⟨b, off, rfl, by simpa [World.setCell] using hlt, fun i c hi => ?_⟩
  rw [← hc i c hi]
  exact World.cell?_setCell_other w p ⟨b, off + i, none⟩ u (fun e => by rw [e] at hp; simp only at hp; omega)
theorem SlI.setLow {w : World} {v : Value} {l : List Int} {B : Nat} (h : SlI w v l) (hf : FreshFrom B v) {p : Addr} (hp : p.block < B) (u : Value) : SlI (w.setCell p u) v l := ⟨h.1, h.2.setLow hf hp u⟩
theorem SlV.news {w : World} {ad : Addr} {n cap : Nat} {cs : List Value} (h : SlV w (.slice (some ad) n cap) cs) : ∀ j u, cs[j]? = some u → w.cell? (ad.add j) = some u := by
  obtain ⟨a', cap', h1, h2, h3, h4, h5⟩ := h
  intro j u hu
  have hj : j < cs.length := by
    rcases Nat.lt_or_ge j cs.length with hj | hj
    · exact hj
    · rw [List.getElem?_eq_none hj] at hu; cases hu
  obtain ⟨b, off, ha, hlt, hc⟩ := h5 (by omega)
  obtain ⟨rfl, _, _⟩ : some ad = a' ∧ n = cs.length ∧ cap = cap' := by injection h1 with e1 e2 e3; exact ⟨e1, e2, e3⟩
  obtain rfl : ad = ⟨b, off, none⟩ := by injection ha
  have hadd : (⟨b, off, none⟩ : Addr).add j = ⟨b, off + j, none⟩ := by unfold Addr.add; split <;> simp_all
  rw [hadd, hc j u hu]
theorem infoInt : (Try.prog.info? 3).map (fun i => (i.zero, i.size, i.bytes)) = some (some (.int .i64 0), 1, 8) := by kernel_rfl
theorem infoBool : (Try.prog.info? 4).map (fun i => (i.zero, i.size, i.bytes)) = some (some (.bool false), 1, 1) := by kernel_rfl

set_option maxHeartbeats 1000000 in
theorem clone_i (w : World) (va : Value) (a : List Int) (h : SlI w va a) (ha : a.length ≤ 1000000) :
    Calls Try.prog 16 #[va] w fun e w' => ∃ v, e = .returned v ∧ SlI w' v a ∧ FreshFrom w.heap.size v ∧ Below w.heap.size w w' := by
  have hs := h
  obtain ⟨p, cap, rfl, h2, h3, h5⟩ := h.shape
  rcases p with _ | ad
  · have hz := h5 rfl
    have hl : a = [] := List.length_eq_zero_iff.1 (by omega)
    subst hl; subst hz
    have hnil := fun W : World => Lib.run_eql_slice_nil (P := Try.prog) W 22 3 none 0 0 0 0 Try.underlying22
    clear hs h5 h
    go_enter Try.func16, Try.ntmps16
    go_wp2
    go_ret
    exact ⟨_, rfl, SlI.nil w, FreshFrom.nil _, Below.refl _ w⟩
  · have hnil := fun W : World => Lib.run_eql_slice_nil (P := Try.prog) W 22 3 (some ad) a.length cap 0 0 Try.underlying22
    have hown := World.ownsRow_made (e := 3) (size := 1) (base := w.heap.size) w #[] 0 (Nat.le_refl _) (by simp) (by simp)
    have hnews := (hs.alloc (.cells #[] 3)).2.news
    obtain ⟨i0, hi, hz0, hz1, hz2⟩ := info_parts infoInt
    have HOWN := Lib.hid hown
    have HNEWS := Lib.hid hnews
    have HIN : Hid (∀ z ∈ a, In64 z) := hs.1
    have hlm : maxLen = 9223372036854775807 := rfl
    have HLM := Lib.hid hlm
    clear hs h5 h hown hnews hlm
    go_enter Try.func16, Try.ntmps16
    go_wp2_with (at_builtin; refine wpList_append_own _ rfl _ _ 22 rfl w.heap.size 3 i0 (.int .i64 0) 1 8 Try.underlying22 hi hz0 hz1 hz2 rfl (by decide) _ _ _ rfl HOWN.out ad a.length cap (a.map (Value.int .i64)) rfl ?c1 HNEWS.out ?c3 ?c4 ?c5 ?c6 ?_)
    case c1 => simp
    case c3 => exact fun u hu => by obtain ⟨x, _, rfl⟩ := List.mem_map.1 hu; rfl
    case c4 => rw [HLM.out]; omega
    case c5 => omega
    case c6 => simp
    intro v' w1 hown' hgrow _
    have hs' := SlV.of_own hown'
    have HS : Hid (SlI w1 v' a ∧ FreshFrom w.heap.size v') := ⟨⟨HIN.out, hs'.1⟩, hs'.2⟩
    clear hs' hown'
    go_wp2
    go_ret
    exact ⟨_, rfl, HS.out.1, HS.out.2, ((Below.refl _ w).alloc (Nat.le_refl _) _).grown hgrow (by simp) (fun k hk => by simp [Value.ownBlock] at hk; omega)⟩

end Go.Proofs.Ytebmegodeglobaa

namespace Go.Proofs.Ytebmegodeglobaa
open Go.RowKit

/-- The eight cells of a rollout. -/
def roCells (R : Ro) (p0 p1 p2 p3 p4 p5 : Option Addr) (k0 k1 k2 k3 k4 k5 : Nat) : Array Value := #[.slice p0 R.hosts.length k0, .slice p1 R.waves.length k1, .bool R.rate.neg, .slice p2 R.rate.num.length k2, .slice p3 R.rate.den.length k3, .bool R.bound.neg, .slice p4 R.bound.num.length k4, .slice p5 R.bound.den.length k5]
/-- Block B is the variable of a rollout. -/
def VarR (w : World) (B : Nat) (R : Ro) : Prop := ∃ p0 p1 p2 p3 p4 p5 k0 k1 k2 k3 k4 k5, Box w B (roCells R p0 p1 p2 p3 p4 p5 k0 k1 k2 k3 k4 k5) 28 ∧ IsR w (.agg (roCells R p0 p1 p2 p3 p4 p5 k0 k1 k2 k3 k4 k5)) R
theorem VarR.after {w w' : World} {B : Nat} {R : Ro} (h : VarR w B R) (hb : Below w.heap.size w w') : VarR w' B R := by
  obtain ⟨p0, p1, p2, p3, p4, p5, k0, k1, k2, k3, k4, k5, h1, h2⟩ := h
  exact ⟨p0, p1, p2, p3, p4, p5, k0, k1, k2, k3, k4, k5, h1.after hb, h2.after hb⟩
theorem VarR.soft {w w' : World} {B n : Nat} {R : Ro} (h : VarR w B R) (hs : Soft w n) (hg : w.grownBy w' (some n)) : VarR w' B R := by
  obtain ⟨p0, p1, p2, p3, p4, p5, k0, k1, k2, k3, k4, k5, h1, h2⟩ := h
  exact ⟨p0, p1, p2, p3, p4, p5, k0, k1, k2, k3, k4, k5, h1.soft hs hg, h2.soft hs hg⟩
theorem VarR.lt {w : World} {B : Nat} {R : Ro} (h : VarR w B R) : B < w.heap.size := by
  obtain ⟨p0, p1, p2, p3, p4, p5, k0, k1, k2, k3, k4, k5, h1, h2⟩ := h
  exact h1.lt
/-- What is yielded at boundary r. -/
def BndV (R : Ro) (r : Nat) (args : Array Value) (W : World) : Prop := ∃ (m : Nat) (a : Option Addr) (c : Nat), args = #[.int .i64 (r : Int), .agg #[.int .i64 ((cum R (r + 1) : Nat) : Int), .int .i64 ((m : Int) - 1), .slice a (hostsOf R (cum R r) (cum R (r + 1))).length c]] ∧
  m ≤ cum R (r + 1) + 1 ∧ (∀ k : Nat, GoB R (cum R (r + 1)) k ↔ k < m) ∧ SlI W (.slice a (hostsOf R (cum R r) (cum R (r + 1))).length c) (hostsOf R (cum R r) (cum R (r + 1)))
theorem hostsOf_len {R : Ro} (h : ValidR R) {r : Nat} (hr : r < R.waves.length) : (hostsOf R (cum R r) (cum R (r + 1))).length = cum R (r + 1) - cum R r := by
  unfold hostsOf
  have := cum_le h (r + 1)
  simp; omega

set_option maxRecDepth 100000 in
theorem bounds_t (w : World) (p0 p1 p2 p3 p4 p5 : Option Addr) (n0 n1 n2 n3 n4 n5 k0 k1 k2 k3 k4 k5 : Nat) (s t : Bool) :
    Calls Try.prog 15 #[.agg #[.slice p0 n0 k0, .slice p1 n1 k1, .bool s, .slice p2 n2 k2, .slice p3 n3 k3, .bool t, .slice p4 n4 k4, .slice p5 n5 k5]] w
      fun e w' => e = .returned (.func (.func 27) #[] #[.pointer (some ⟨w.heap.size, 0, none⟩)]) ∧ w' = w.alloc (.cells #[.slice p0 n0 k0, .slice p1 n1 k1, .bool s, .slice p2 n2 k2, .slice p3 n3 k3, .bool t, .slice p4 n4 k4, .slice p5 n5 k5] 28) := by
  go_enter Try.func15, Try.ntmps15
  go_wp2
  go_ret
  exact ⟨rfl, rfl⟩

set_option maxRecDepth 100000 in
set_option maxHeartbeats 4000000 in
theorem bounds1_t (l q : Nat) (W1 : World) (B : Nat) (R : Ro) (p0 p1 p2 p3 p4 p5 : Option Addr) (k0 k1 k2 k3 k4 k5 : Nat) (hv : ValidR R) (J Y : Nat → World → Prop) (hJ : ∀ r W, J r W → Box W B (roCells R p0 p1 p2 p3 p4 p5 k0 k1 k2 k3 k4 k5) 28 ∧ IsR W (.agg (roCells R p0 p1 p2 p3 p4 p5 k0 k1 k2 k3 k4 k5)) R) (hJb : ∀ r W W', J r W → Below W.heap.size W W' → J r W') (hJ0 : J 0 W1)
    (hY : ∀ (r : Nat) (args : Array Value) (W : World), r < R.waves.length → J r W → BndV R r args W → YieldAt Fence.wide q Try.prog l args W fun e W' => (e = .returned (.bool true) ∧ J (r + 1) W') ∨ (e = .returned (.bool false) ∧ Y r W')) :
    Calls Try.prog 27 #[.func (.yield l) #[] #[], .pointer (some ⟨B, 0, none⟩)] W1 fun e W' => (∃ v, e = .returned v) ∧ (J R.waves.length W' ∨ ∃ r, r < R.waves.length ∧ Y r W') := by
  have HJ := Lib.hid hJ
  have HJb := Lib.hid hJb
  have HJ0 := Lib.hid hJ0
  have HY := Lib.hid hY
  have HV := Lib.hid hv
  have hcs : ∀ W, Box W B (roCells R p0 p1 p2 p3 p4 p5 k0 k1 k2 k3 k4 k5) 28 → Box W B #[.slice p0 R.hosts.length k0, .slice p1 R.waves.length k1, .bool R.rate.neg, .slice p2 R.rate.num.length k2, .slice p3 R.rate.den.length k3, .bool R.bound.neg, .slice p4 R.bound.num.length k4, .slice p5 R.bound.den.length k5] 28 := fun _ h => h
  have HCS := Lib.hid hcs
  obtain ⟨bx, hR⟩ := hJ 0 W1 hJ0
  obtain ⟨b0, b1, b2, b3, b4, b5, b6, b7⟩ := (hcs _ bx).cells8
  have hwl : R.waves.length ≤ 9223372036854775807 := by
    obtain ⟨q0, q1, q2, q3, q4, q5, j0, j1, j2, j3, j4, j5, e, h0, h1, h2, h3⟩ := hR.open
    obtain ⟨a, c, e1, m1, m2, _⟩ := h1.shape
    omega
  have cz : Hid (((cum R 0 : Nat) : Int) = 0) := by show _ = _; rw [cum_zero]; rfl
  clear hJ hJb hJ0 hY hv bx hR hcs
  go_enter Try.func27, Try.ntmps27
  go_wp2_with fail
  clear b0 b1 b2 b3 b4 b5 b6 b7
  go_loopg [3, 12] R.waves.length (fun g n i wx => ∃ r : Nat, r ≤ R.waves.length ∧ g = R.waves.length - r ∧ n = .int .i64 ((cum R r : Nat) : Int) ∧ i = .int .i64 (r : Int) ∧ Hid (J r wx))
  case atStart => exact ⟨0, Nat.zero_le _, rfl, by rw [cz.out], rfl, HJ0.out⟩
  case round =>
    obtain ⟨r, hr, rfl, rfl, rfl, hj⟩ := hrel
    by_cases hlt : r < R.waves.length
    · obtain ⟨bx, hR⟩ := HJ.out r wr hj.out
      obtain ⟨b0, b1, b2, b3, b4, b5, b6, b7⟩ := (HCS.out _ bx).cells8
      obtain ⟨q0, q1, q2, q3, q4, q5, j0, j1, j2, j3, j4, j5, e, h0, h1, h2, h3⟩ := hR.open
      unfold roCells at e
      obtain ⟨⟨rfl, rfl⟩, ⟨rfl, rfl⟩, ⟨rfl, rfl⟩, ⟨rfl, rfl⟩, ⟨rfl, rfl⟩, rfl, rfl⟩ : (p0 = q0 ∧ k0 = j0) ∧ (p1 = q1 ∧ k1 = j1) ∧ (p2 = q2 ∧ k2 = j2) ∧ (p3 = q3 ∧ k3 = j3) ∧ (p4 = q4 ∧ k4 = j4) ∧ p5 = q5 ∧ k5 = j5 := by
        injection e with e
        have e := congrArg Array.toList e
        simpa using e
      clear e hR
      have hlen := HV.out.1
      have hlen2 := HV.out.2.1
      obtain ⟨_, cc0, e0, m0, m1, _⟩ := h0.shape
      have hk0 : R.hosts.length ≤ k0 := by injection e0 with x1 x2 x3; omega
      have hk1 : k0 ≤ 9223372036854775807 := by injection e0 with x1 x2 x3; omega
      clear m0 m1
      obtain ⟨bw, offw, rfl, _, hc⟩ := h1.cells (by omega)
      obtain ⟨bh, offh, rfl, _, _⟩ := h0.cells (by omega)
      have hck := hc r hlt
      obtain ⟨s1, s2, s3⟩ := cum_succ HV.out hlt
      have s4 := cum_le HV.out (r + 1)
      have HLT := Lib.hid hlt
      have hpart := h0.part (cum R r) (cum R (r + 1)) (by omega) (by omega)
      have hho : Hid (SlI wr (.slice (some ⟨bh, offh + cum R r, none⟩) (cum R (r + 1) - cum R r) (k0 - cum R r)) (hostsOf R (cum R r) (cum R (r + 1)))) := hpart
      have hhl := Lib.hid (hostsOf_len HV.out hlt)
      have H2 := Lib.hid h2
      have H3 := Lib.hid h3
      have HBV : Hid (∀ m : Nat, m ≤ cum R (r + 1) + 1 → (∀ k : Nat, GoB R (cum R (r + 1)) k ↔ k < m) → ∀ W, Below wr.heap.size wr W → BndV R r #[.int .i64 (r : Int), .agg #[.int .i64 ((cum R (r + 1) : Nat) : Int), .int .i64 ((m : Int) - 1), .slice (some ⟨bh, offh + cum R r, none⟩) (cum R (r + 1) - cum R r) (k0 - cum R r)]] W) := by
        intro m hm hg W hb
        refine ⟨m, some ⟨bh, offh + cum R r, none⟩, k0 - cum R r, by rw [hhl.out], hm, hg, ?_⟩
        rw [hhl.out]
        exact hho.out.after hb
      have HCR : Hid (∀ ru : Int × Int, critF ((cum R (r + 1) : Nat) : Int) R.rate R.bound ru → ∃ m : Nat, ru = ((m : Int), 0) ∧ m ≤ cum R (r + 1) + 1 ∧ ∀ k : Nat, GoB R (cum R (r + 1)) k ↔ k < m) := fun ru h => crit_goB HV.out (by omega) h
      have HYR : Hid (∀ (args : Array Value) (W : World), J r W → BndV R r args W → YieldAt Fence.wide q Try.prog l args W fun e W' => (e = .returned (.bool true) ∧ J (r + 1) W') ∨ (e = .returned (.bool false) ∧ Y r W')) := fun args W h1 h2 => HY.out r args W hlt h1 h2
      clear h0 h1 h2 h3 hc hpart bx hho hhl e0 s1
      obtain ⟨n, hn⟩ : ∃ n, cum R r = n := ⟨_, rfl⟩
      obtain ⟨n', hn'⟩ : ∃ n', cum R (r + 1) = n' := ⟨_, rfl⟩
      obtain ⟨x, hx⟩ : ∃ x, ati R.waves r = x := ⟨_, rfl⟩
      have HN' := Lib.hid hn'
      rw [hn, hn', hx] at s3
      rw [hx] at hck s2
      rw [hn'] at s4
      rw [hn, hn'] at HBV
      rw [hn'] at HCR
      rw [hn]
      clear hn hn' hx
      go_wp2_with fail
      refine (tCritical_c _ (n' : Int) _ _ R.rate R.bound H2.out H3.out).mono ?_
      rintro e w3 ⟨ru, rfl, hru, hb3⟩
      obtain ⟨m, rfl, hm, hg⟩ := HCR.out ru hru
      have HB3 := Lib.hid hb3
      have HG := Lib.hid hg
      have HJ3 := Lib.hid (HJb.out _ _ _ hj.out hb3)
      obtain ⟨fn, tmps, asg, bdy, hy, hR⟩ := HYR.out _ w3 HJ3.out (HBV.out m hm hg w3 hb3)
      clear hru hb3 hg b0 b1 b2 b3 b4 b5 b6 b7 hck
      go_upto_region 7 with fail
      refine (wpIn_wide (n := q + 1)).1 ?_
      gi_wp2
      refine hR.mono ?_
      rintro e W' (⟨rfl, hc⟩ | ⟨rfl, hyy⟩)
      · have HC := Lib.hid hc
        clear hR hy hc
        gi_wp2
        go_wp2_with fail
        go_roundg (R.waves.length - (r + 1))
        case measure => omega
        case rel => exact ⟨r + 1, by omega, rfl, by rw [HN'.out], by go_num, HC.out⟩
      · have HYY := Lib.hid hyy
        clear hyy hR hy
        gi_wp2
        go_wp2_with fail
        refine bodyPost_ret (results_none rfl _ _ _) rfl ?_
        exact ⟨⟨_, rfl⟩, .inr ⟨r, HLT.out, HYY.out⟩⟩
    · obtain rfl : r = R.waves.length := by omega
      go_wp2_with fail
      go_end0
      exact ⟨⟨_, rfl⟩, .inl hj.out⟩
end Go.Proofs.Ytebmegodeglobaa

namespace Go.Proofs.Ytebmegodeglobaa
open Go.RowKit

theorem Box.grown' {w w' : World} {b : Nat} {cs : Array Value} {t : TypeId} {row : Option Nat} (h : Box w b cs t) (hg : w.grownBy w' row) (hb : some b ≠ row) : Box w' b cs t := (hg.block b h.lt hb).trans h
theorem SlV.grownBox {w w' : World} {v : Value} {cs : List Value} {O : Nat} {c0 : Value} {t : TypeId} (h : SlV w v cs) (hb : Box w O #[c0] t) (hne : ∀ c ∈ cs, c ≠ c0) (hg : w.grownBy w' (some O)) : SlV w' v cs := by
  obtain ⟨a, cap, h1, h2, h3, h4, h5⟩ := h
  refine ⟨a, cap, h1, h2, h3, h4, fun hl => ?_⟩
  obtain ⟨b, off, e, hlt, hc⟩ := h5 hl
  have hbO : b ≠ O := by
    rintro rfl
    have h0 := hc 0 cs[0] (List.getElem?_eq_getElem hl)
    rw [hb.cell] at h0
    rcases Nat.eq_zero_or_pos (off + 0) with hz | hz
    · rw [hz] at h0
      have : c0 = cs[0] := by simpa using h0
      exact hne _ (List.getElem_mem hl) this.symm
    · rw [Array.getElem?_eq_none (by simp; omega)] at h0; cases h0
  exact ⟨b, off, e, Nat.lt_of_lt_of_le hlt hg.size, fun i c hi => hg.cell (hc i c hi) (by intro e; injection e with e; exact hbO e)⟩
theorem SlI.grownBox {w w' : World} {v : Value} {l : List Int} {O : Nat} {p : Option Addr} {n c : Nat} {t : TypeId} (h : SlI w v l) (hb : Box w O #[.slice p n c] t) (hg : w.grownBy w' (some O)) : SlI w' v l :=
  ⟨h.1, h.2.grownBox hb (fun c hc => by obtain ⟨x, _, rfl⟩ := List.mem_map.1 hc; intro e; cases e) hg⟩
theorem SlB.grownBox {w w' : World} {v : Value} {l : List Bool} {O : Nat} {p : Option Addr} {n c : Nat} {t : TypeId} (h : SlB w v l) (hb : Box w O #[.slice p n c] t) (hg : w.grownBy w' (some O)) : SlB w' v l :=
  SlV.grownBox h hb (fun c hc => by obtain ⟨x, _, rfl⟩ := List.mem_map.1 hc; intro e; cases e) hg
theorem Box.noTag {w : World} {O : Nat} {cs : Array Value} {t : TypeId} (hb : Box w O cs t) (ht : t ≠ 95) : ∀ g, some O = some g → ¬ Tag32 w g := by
  rintro g e ⟨cs', fz, h'⟩
  injection e with e
  subst e
  unfold Box at hb
  rw [hb] at h'
  injection h' with h'
  injection h' with _ h2
  exact ht h2
theorem IsR.grownBox {w w' : World} {v : Value} {R : Ro} {O : Nat} {p : Option Addr} {n c : Nat} {t : TypeId} (h : IsR w v R) (hb : Box w O #[.slice p n c] t) (ht : t ≠ 95) (hg : w.grownBy w' (some O)) : IsR w' v R := by
  obtain ⟨vh, vw, va, vb, vc, vd, e, h1, h2, h3, h4, h5, h6⟩ := h
  have hn := hb.noTag ht
  exact ⟨vh, vw, va, vb, vc, vd, e, h1.grownBox hb hg, h2.grownBox hb hg, h3.grown hg hn, h4.grown hg hn, h5.grown hg hn, h6.grown hg hn⟩
theorem grown_tr {a w w' : World} {row : Option Nat} (h : a.grownBy w row) (k : w.grownBy w' row) : a.grownBy w' row :=
  ⟨k.os.trans h.os, k.tape.trans h.tape, k.output.trans h.output, Nat.le_trans h.size k.size, fun b hb hne => (k.block b (Nat.lt_of_lt_of_le hb h.size) hne).trans (h.block b hb hne)⟩
theorem grown_but {a c : World} (h : a.grownBy c none) (row : Option Nat) : a.grownBy c row := ⟨h.os, h.tape, h.output, h.size, fun i hi _ => h.block i hi (by simp)⟩
theorem grown_below {W1 W W' : World} {row : Option Nat} (h : W1.grownBy W row) (hb : Below W.heap.size W W') : W1.grownBy W' row := grown_tr h (grown_but (grownBy_of_below hb) row)
/-- A change of a block that was not there at first. -/
theorem grown_new {W1 W W' : World} {row r2 : Option Nat} (h : W1.grownBy W row) (hg : W.grownBy W' r2) (hr : ∀ g, r2 = some g → W1.heap.size ≤ g) : W1.grownBy W' row :=
  ⟨hg.os.trans h.os, hg.tape.trans h.tape, hg.output.trans h.output, Nat.le_trans h.size hg.size, fun b hb hne =>
    (hg.block b (Nat.lt_of_lt_of_le hb h.size) (fun e => by have := hr b e.symm; omega)).trans (h.block b hb hne)⟩
theorem ownsRow_soft {W W' : World} {base n size l : Nat} {t : TypeId} {v : Value} {xs : List Value} (h : W.ownsRow base t size v n xs) (hs : Soft W l) (hg : W.grownBy W' (some l)) : W'.ownsRow base t size v n xs := by
  refine h.kept hg ?_
  rcases h.2 with ⟨rfl, _⟩ | ⟨g, cap, cur, rfl, _, hb, _⟩
  · exact .inl rfl
  · refine .inr ?_
    intro e
    simp [Value.ownBlock] at e
    exact hs.ne_box hb e
theorem grown_set (w : World) (O i : Nat) (u : Value) : w.grownBy (w.setCell ⟨O, i, none⟩ u) (some O) :=
  ⟨rfl, rfl, rfl, by simp [World.setCell], fun b _ hne => Below.heap_setCell w ⟨O, i, none⟩ u b (fun e => hne (by rw [e]))⟩
theorem ownsRow_ge {W : World} {base n size : Nat} {t : TypeId} {v : Value} {xs : List Value} (h : W.ownsRow base t size v n xs) : ∀ g, v.ownBlock = some g → base ≤ g ∧ ¬ Soft W g := by
  intro g hg
  rcases h.2 with ⟨rfl, _⟩ | ⟨g', cap, cur, rfl, hle, hb, _⟩
  · cases hg
  · obtain rfl : g' = g := by simpa [Value.ownBlock] using hg
    exact ⟨hle, fun hs => hs.ne_box hb rfl⟩
theorem ownsRow_shape {W : World} {base n size : Nat} {t : TypeId} {v : Value} {xs : List Value} (h : W.ownsRow base t size v n xs) : ∃ p c, v = .slice p n c := by
  rcases h.2 with ⟨rfl, h0⟩ | ⟨g', cap, cur, rfl, _⟩
  · exact ⟨none, 0, by rw [h0]⟩
  · exact ⟨_, _, rfl⟩
/-- Variable O collects ints in a row of its own, made since world W1; nothing else of W1 has turned. -/
def OutI (W1 : World) (O k : Nat) (l : List Int) (W : World) : Prop :=
  ∃ p n c, Box W O #[.slice p n c] 22 ∧ W.ownsRow W1.heap.size 3 1 (.slice p n c) k (l.map (Value.int .i64)) ∧ W1.grownBy W (some O)
theorem OutI.after {W1 W W' : World} {O k : Nat} {l : List Int} (h : OutI W1 O k l W) (hb : Below W.heap.size W W') : OutI W1 O k l W' := by
  obtain ⟨p, n, c, h1, h2, h3⟩ := h
  exact ⟨p, n, c, h1.after hb, ownsRow_after h2 hb, grown_below h3 hb⟩
theorem OutI.soft {W1 W W' : World} {O k s : Nat} {l : List Int} (h : OutI W1 O k l W) (hs : Soft W s) (hle : W1.heap.size ≤ s) (hg : W.grownBy W' (some s)) : OutI W1 O k l W' := by
  obtain ⟨p, n, c, h1, h2, h3⟩ := h
  exact ⟨p, n, c, h1.soft hs hg, ownsRow_soft h2 hs hg, grown_new h3 hg (fun g e => by injection e with e; omega)⟩
/-- One more: a new row behind an append, and the store of it. -/
theorem OutI.push {W1 w3 w5 : World} {O k : Nat} {l : List Int} {p : Option Addr} {n c : Nat} {z : Int} {v' : Value} {t : TypeId} (hO : O < W1.heap.size) (hbo : Box w3 O #[.slice p n c] 22) (hown : w3.ownsRow W1.heap.size 3 1 (.slice p n c) k (l.map (Value.int .i64))) (hg : W1.grownBy w3 (some O))
    (hown' : w5.ownsRow W1.heap.size 3 1 v' (k + 1) (l.map (Value.int .i64) ++ [.int .i64 z])) (hgr : (w3.alloc (.cells #[.int .i64 z] t)).grownBy w5 (Value.slice p n c).ownBlock) :
    Box w5 O #[.slice p n c] 22 ∧ OutI W1 O (k + 1) (l ++ [z]) (w5.setCell ⟨O, 0, none⟩ v') ∧ KeepSoft W1.heap.size w3 (w5.setCell ⟨O, 0, none⟩ v') := by
  have hge := ownsRow_ge (hown.alloc (.cells #[.int .i64 z] t))
  have hge' := ownsRow_ge hown'
  have b5 : Box w5 O #[.slice p n c] 22 := (hbo.alloc _).grown' hgr (by intro e; have := (hge O e.symm).1; omega)
  obtain ⟨p', c', rfl⟩ := ownsRow_shape hown'
  refine ⟨b5, ⟨p', _, c', by simpa using b5.set 0 (.slice p' (k + 1) c'), ?_, ?_⟩, ?_⟩
  · rw [List.map_append]
    refine hown'.kept (grown_set w5 O 0 _) ?_
    cases hb : (Value.slice p' (k + 1) c').ownBlock with
    | none => exact .inl rfl
    | some g => exact .inr (by intro e; injection e with e; have := (hge' g hb).1; omega)
  · exact grown_tr (grown_new (grown_tr hg (World.grownBy_alloc w3 _ (some O))) hgr (fun g e => (hge g e).1)) (grown_set w5 O 0 _)
  · exact (((KeepSoft.refl W1.heap.size w3).below (held_alloc (Below.refl _ w3))).grown hgr (fun g e => (hge g e).2)).setCell (b5.cell 0)
theorem cell_one {w : World} {u : Value} {t : TypeId} : ∀ j x, [u][j]? = some x → (w.alloc (.cells #[u] t)).cell? ((⟨w.heap.size, 0, none⟩ : Addr).add j) = some x := by
  intro j x hx
  match j, hx with
  | 0, hx =>
    obtain rfl : u = x := by simpa using hx
    exact (Box.new w #[u] t).cell 0
end Go.Proofs.Ytebmegodeglobaa
