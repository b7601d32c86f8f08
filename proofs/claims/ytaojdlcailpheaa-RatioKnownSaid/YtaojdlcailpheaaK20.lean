/- Canary, plain: the probability that a rollout stops, wave by wave, as whole numbers over a power of the rate's denominator.
   Walks of package canary: the closure of Chance that puts an outcome to what has stopped or to what goes on.
   Walks: slices.Equal of limbs; memory words: a variable that collects numbers.
   Regions that draw their order, within a round of a range over a function: one walk serves all orders, as outside. -/
import Derived.Test.YtaojdlcailpheaaK18
import Derived.Test.YtaojdlcailpheaaK19
import Derived.Test.YtaojdlcailpheaaK08
import Derived.Maps.OwnOps
import Derived.Test.YtaojdlcailpheaaK11
import Derived.Deep.QuietTactic
import Derived.Sort.QuietIn
import Derived.Test.YtaojdlcailpheaaProg
set_option linter.unusedVariables false
namespace Go.Proofs.Ytaojdlcailpheaa

/-- The sum of f 0 .. f (n - 1). -/
def sm : Nat → (Nat → Nat) → Nat
  | 0, _ => 0
  | n + 1, f => sm n f + f n
theorem sm_congr {n : Nat} {f g : Nat → Nat} (h : ∀ i, i < n → f i = g i) : sm n f = sm n g := by
  induction n with
  | zero => rfl
  | succ n ih => rw [sm, sm, ih fun i hi => h i (by omega), h n (by omega)]
theorem sm_zero {n : Nat} {f : Nat → Nat} (h : ∀ i, i < n → f i = 0) : sm n f = 0 := by
  induction n with
  | zero => rfl
  | succ n ih => rw [sm, ih fun i hi => h i (by omega), h n (by omega)]
theorem sm_add (n : Nat) (f g : Nat → Nat) : sm n (fun i => f i + g i) = sm n f + sm n g := by
  induction n with
  | zero => rfl
  | succ n ih => simp only [sm]; rw [ih]; omega
theorem sm_mul (n c : Nat) (f : Nat → Nat) : sm n (fun i => f i * c) = sm n f * c := by
  induction n with
  | zero => simp [sm]
  | succ n ih => simp only [sm]; rw [ih, Nat.add_mul]
theorem sm_front (n : Nat) (f : Nat → Nat) : sm (n + 1) f = f 0 + sm n (fun i => f (i + 1)) := by
  induction n with
  | zero => simp [sm]
  | succ n ih => rw [sm, ih]; simp only [sm]; omega
theorem sm_rev (n : Nat) (f : Nat → Nat) : sm n (fun i => f (n - 1 - i)) = sm n f := by
  induction n with
  | zero => rfl
  | succ n ih =>
    rw [sm_front n (fun i => f (n + 1 - 1 - i))]
    have : sm n (fun i => f (n + 1 - 1 - (i + 1))) = sm n f := by
      rw [← ih]
      exact sm_congr fun i hi => by rw [show n + 1 - 1 - (i + 1) = n - 1 - i by omega]
    rw [this, sm]
    simp
    omega
theorem sm_more {n m : Nat} {f : Nat → Nat} (hnm : n ≤ m) (h : ∀ i, n ≤ i → i < m → f i = 0) : sm m f = sm n f := by
  induction m with
  | zero => rw [show n = 0 by omega]
  | succ m ih =>
    rcases Nat.lt_or_eq_of_le hnm with h1 | h1
    · rw [sm, ih (by omega) fun i hi hj => h i hi (by omega), h m (by omega) (by omega), Nat.add_zero]
    · rw [h1]
theorem sm_le {n : Nat} {f g : Nat → Nat} (h : ∀ i, i < n → f i ≤ g i) : sm n f ≤ sm n g := by
  induction n with
  | zero => exact Nat.le_refl _
  | succ n ih => rw [sm, sm]; exact Nat.add_le_add (ih fun i hi => h i (by omega)) (h n (by omega))
theorem sm_one {n k : Nat} {f : Nat → Nat} (h : k < n) : f k ≤ sm n f := by
  induction n with
  | zero => omega
  | succ n ih =>
    rw [sm]
    rcases Nat.lt_or_eq_of_le (Nat.le_of_lt_succ h) with h1 | h1
    · have := ih h1; omega
    · subst h1; omega
/-- What j values of e have made of g at place k: the order of the program. -/
def cvA (g e : Nat → Nat) (j k : Nat) : Nat := sm j fun i => if i ≤ k then g (k - i) * e i else 0
/-- .. what i values of g have made with e at place k: the order of the reference. -/
def cvB (g e : Nat → Nat) (i k : Nat) : Nat := sm i fun j => if j ≤ k then g j * e (k - j) else 0
theorem cvA_succ (g e : Nat → Nat) (j k : Nat) : cvA g e (j + 1) k = cvA g e j k + if j ≤ k then g (k - j) * e j else 0 := rfl
theorem cvB_succ (g e : Nat → Nat) (i k : Nat) : cvB g e (i + 1) k = cvB g e i k + if i ≤ k then g i * e (k - i) else 0 := rfl
theorem cvA_all {g e : Nat → Nat} {w : Nat} (he : ∀ j, w < j → e j = 0) (k : Nat) : cvA g e (w + 1) k = sm (k + 1) fun i => g (k - i) * e i := by
  unfold cvA
  rcases Nat.le_total k w with h | h
  · rw [sm_more (n := k + 1) (m := w + 1) (by omega) fun i h1 h2 => if_neg (by omega)]
    exact sm_congr fun i hi => if_pos (by omega)
  · rw [← sm_more (n := w + 1) (m := k + 1) (by omega) (f := fun i => if i ≤ k then g (k - i) * e i else 0) fun i h1 h2 => by rw [he i (by omega)]; simp]
    exact sm_congr fun i hi => if_pos (by omega)
theorem cvB_all {g e : Nat → Nat} {n : Nat} (hg : ∀ i, n < i → g i = 0) (k : Nat) : cvB g e (n + 1) k = sm (k + 1) fun i => g i * e (k - i) := by
  unfold cvB
  rcases Nat.le_total k n with h | h
  · rw [sm_more (n := k + 1) (m := n + 1) (by omega) fun i h1 h2 => if_neg (by omega)]
    exact sm_congr fun i hi => if_pos (by omega)
  · rw [← sm_more (n := n + 1) (m := k + 1) (by omega) (f := fun j => if j ≤ k then g j * e (k - j) else 0) fun i h1 h2 => by rw [hg i (by omega)]; simp]
    exact sm_congr fun i hi => if_pos (by omega)
theorem cv_eq {g e : Nat → Nat} {w n : Nat} (he : ∀ j, w < j → e j = 0) (hg : ∀ i, n < i → g i = 0) (k : Nat) : cvA g e (w + 1) k = cvB g e (n + 1) k := by
  rw [cvA_all he, cvB_all hg, ← sm_rev (k + 1) fun i => g i * e (k - i)]
  exact sm_congr fun i hi => by
    show g (k - i) * e i = g (k + 1 - 1 - i) * e (k - (k + 1 - 1 - i))
    rw [show k + 1 - 1 - i = k - i by omega, show k - (k - i) = i by omega]
theorem cvA_far {g e : Nat → Nat} {n j k : Nat} (hg : ∀ i, n < i → g i = 0) (h : n + j ≤ k) : cvA g e j k = 0 := by
  unfold cvA
  refine sm_zero fun i hi => ?_
  split
  · rw [hg _ (by omega), Nat.zero_mul]
  · rfl
/-- All together. -/
theorem cvA_sum {g e : Nat → Nat} {n N : Nat} (hg : ∀ i, n < i → g i = 0) : ∀ j, n + j ≤ N + 1 → sm (N + 1) (fun k => cvA g e j k) = sm (n + 1) g * sm j e
  | 0, _ => by rw [show sm 0 e = 0 from rfl, Nat.mul_zero]; exact sm_zero fun _ _ => rfl
  | j + 1, hj => by
    have e1 : sm (N + 1) (fun k => cvA g e (j + 1) k) = sm (N + 1) (fun k => cvA g e j k) + sm (N + 1) (fun k => if j ≤ k then g (k - j) * e j else 0) := by
      rw [← sm_add]; exact sm_congr fun k _ => cvA_succ g e j k
    have e2 : sm (j + 1) e = sm j e + e j := rfl
    rw [e1, cvA_sum hg j (by omega), e2, Nat.mul_add]
    congr 1
    have shift : ∀ d M, j + d = M → sm M (fun k => if j ≤ k then g (k - j) * e j else 0) = sm d (fun i => g i * e j) := by
      intro d
      induction d with
      | zero =>
        intro M hM
        rw [← hM, Nat.add_zero]
        exact sm_zero fun i hi => if_neg (by omega)
      | succ d ih =>
        intro M hM
        rw [← hM, show j + (d + 1) = (j + d) + 1 by omega, sm, ih (j + d) rfl, sm, if_pos (by omega), Nat.add_sub_cancel_left]
    rw [shift (N + 1 - j) (N + 1) (by omega), sm_more (n := n + 1) (m := N + 1 - j) (by omega) fun i h1 h2 => by rw [hg i (by omega), Nat.zero_mul], sm_mul]
theorem tl_sm (a c w : Nat) : ∀ d k, k + d = w + 1 → tl a c w k = sm d (fun i => ex a c w (k + i))
  | 0, k, h => by rw [tl_gt (by omega)]; rfl
  | d + 1, k, h => by
    rw [tl_le (by omega), tl_sm a c w d (k + 1) (by omega), sm_front, Nat.add_zero]
    congr 1
    exact sm_congr fun i _ => by rw [show k + 1 + i = k + (i + 1) by omega]
theorem ex_all (a c w : Nat) : sm (w + 1) (ex a c w) = (a + c) ^ w := by
  rw [← tl_all a c w, tl_sm a c w (w + 1) 0 (by omega)]
  exact sm_congr fun i _ => by rw [Nat.zero_add]

/-- The size of wave r. -/
noncomputable def wv (R : Ro) (r : Nat) : Nat := cum R (r + 1) - cum R r
/-- How likely it is that it has gone on behind r waves with k failures, over (a + c) ^ cum R r. -/
noncomputable def gN (R : Ro) (a c : Nat) : Nat → Nat → Nat
  | 0, k => if k = 0 then 1 else 0
  | r + 1, k => if k < mOf R (cum R (r + 1)) then cvA (gN R a c r) (ex a c (wv R r)) (wv R r + 1) k else 0
/-- .. with k failures behind wave r, before the boundary is looked at. -/
noncomputable def nN (R : Ro) (a c r k : Nat) : Nat := cvA (gN R a c r) (ex a c (wv R r)) (wv R r + 1) k
/-- How likely it is that it has stopped. -/
noncomputable def gS (R : Ro) (a c : Nat) : Nat → Nat
  | 0 => 0
  | r + 1 => gS R a c r * (a + c) ^ wv R r + sm (cum R (r + 1) + 1) fun k => if k < mOf R (cum R (r + 1)) then 0 else nN R a c r k
theorem gN_succ (R : Ro) (a c r k : Nat) : gN R a c (r + 1) k = if k < mOf R (cum R (r + 1)) then nN R a c r k else 0 := rfl
theorem cum_wv {R : Ro} (h : ValidR R) {r : Nat} (hr : r < R.waves.length) : cum R r + wv R r = cum R (r + 1) ∧ 0 < wv R r := by
  unfold wv
  obtain ⟨e1, e2, e3⟩ := cum_succ h hr
  omega
theorem gN_far {R : Ro} (h : ValidR R) (a c : Nat) : ∀ {r : Nat}, r ≤ R.waves.length → ∀ k, cum R r < k → gN R a c r k = 0
  | 0, _, k, hk => by rw [cum_zero] at hk; exact if_neg (by omega)
  | r + 1, hr, k, hk => by
    rw [gN_succ]
    split
    · have := cum_wv h (show r < R.waves.length by omega)
      exact cvA_far (fun i hi => gN_far h a c (by omega) i hi) (by omega)
    · rfl
theorem nN_far {R : Ro} (h : ValidR R) (a c : Nat) {r : Nat} (hr : r < R.waves.length) {k : Nat} (hk : cum R (r + 1) < k) : nN R a c r k = 0 := by
  have := cum_wv h hr
  exact cvA_far (fun i hi => gN_far h a c (by omega) i hi) (by omega)
/-- It has gone on or it has stopped. -/
theorem gN_gS {R : Ro} (h : ValidR R) (a c : Nat) : ∀ {r : Nat}, r ≤ R.waves.length → sm (cum R r + 1) (gN R a c r) + gS R a c r = (a + c) ^ cum R r
  | 0, _ => by rw [cum_zero]; rfl
  | r + 1, hr => by
    have hw := cum_wv h (show r < R.waves.length by omega)
    have ih := gN_gS h a c (r := r) (by omega)
    have hs : sm (cum R (r + 1) + 1) (fun k => nN R a c r k) = sm (cum R r + 1) (gN R a c r) * sm (wv R r + 1) (ex a c (wv R r)) :=
      cvA_sum (fun i hi => gN_far h a c (by omega) i hi) _ (by omega)
    rw [ex_all] at hs
    have hsplit : sm (cum R (r + 1) + 1) (gN R a c (r + 1)) + sm (cum R (r + 1) + 1) (fun k => if k < mOf R (cum R (r + 1)) then 0 else nN R a c r k) = sm (cum R (r + 1) + 1) (fun k => nN R a c r k) := by
      rw [← sm_add]
      refine sm_congr fun k _ => ?_
      rw [gN_succ]
      split <;> omega
    have e : (a + c) ^ cum R (r + 1) = (a + c) ^ cum R r * (a + c) ^ wv R r := by rw [← hw.1, Nat.pow_add]
    rw [e, ← ih, Nat.add_mul, ← hs, ← hsplit]
    show _ + (_ + _) = _
    ac_rfl
/-- The chance that it stops, as a fraction. -/
noncomputable def FQ (z d : Nat) : F := (madeZ (z : Int) d).1
theorem fq_rep {z d : Nat} (hd : 0 < d) (hz : (limbs z).length ≤ 32) (hdl : (limbs d).length ≤ 32) : madeZ (z : Int) d = (FQ z d, 0) ∧ Rep (FQ z d) z d := by
  obtain ⟨x, h1, h2⟩ := rep_of_made (z := (z : Int)) hd (by rw [Int.natAbs_natCast]; exact hz) hdl
  unfold FQ
  rw [h1]
  exact ⟨rfl, h2⟩
theorem fq_add {z z' d : Nat} (hd : 0 < d) (hz : (limbs (z + z')).length ≤ 32) (hdl : (limbs d).length ≤ 32) : opF sumN (FQ z d) (FQ z' d) = (FQ (z + z') d, 0) := by
  have hz1 : (limbs z).length ≤ 32 := Nat.le_trans (limbs_len_mono (Nat.le_add_right z z')) hz
  have hz2 : (limbs z').length ≤ 32 := Nat.le_trans (limbs_len_mono (Nat.le_add_left z' z)) hz
  rw [rep_add (fq_rep hd hz1 hdl).2 (fq_rep hd hz2 hdl).2, ← (fq_rep hd hz hdl).1]
  refine madeZ_cong (Nat.mul_pos hd hd) hd ?_
  push_cast
  grind
theorem fq_mul {z z' d d' : Nat} (hd : 0 < d) (hd' : 0 < d') (hz : (limbs z).length ≤ 32) (hz' : (limbs z').length ≤ 32) (hdl : (limbs d).length ≤ 32) (hdl' : (limbs d').length ≤ 32) (h1 : (limbs (z * z')).length ≤ 32) (h2 : (limbs (d * d')).length ≤ 32) :
    opF mulN (FQ z d) (FQ z' d') = (FQ (z * z') (d * d'), 0) := by
  rw [rep_mul (fq_rep hd hz hdl).2 (fq_rep hd' hz' hdl').2, ← (fq_rep (Nat.mul_pos hd hd') h1 h2).1]
  push_cast
  rfl
theorem fq_scale {z d t : Nat} (hd : 0 < d) (ht : 0 < t) : FQ (z * t) (d * t) = FQ z d := by
  unfold FQ
  rw [madeZ_cong (Nat.mul_pos hd ht) hd (z := ((z * t : Nat) : Int)) (z' := (z : Int)) (by push_cast; grind)]
open Classical in
/-- What Chance returns. -/
noncomputable def chanceF (R : Ro) (p : F) : F × Int :=
  if ¬ ValidR R ∨ rateE p = 1 then (F0, 1) else if rateE p = 0 then (FQ (gS R (val p.num) (val p.den - val p.num) R.waves.length) (val p.den ^ cum R R.waves.length), 0) else (F0, 2)
end Go.Proofs.Ytaojdlcailpheaa

namespace Go.Proofs.Ytaojdlcailpheaa
open Go.RowKit

/-- The parameter of the closure in its own variable. -/
theorem start_x {w : World} {x : F} {p q : Option Addr} {n m c d : Nat} (h1 : Sl w (.slice p n c) x.num) (h2 : Sl w (.slice q m d) x.den) :
    ∃ W0, W0 = w.alloc (.cells #[.bool x.neg, .slice p n c, .slice q m d] 25) ∧ Box W0 w.heap.size #[.bool x.neg, .slice p n c, .slice q m d] 25 ∧ Sl W0 (.slice p n c) x.num ∧ Sl W0 (.slice q m d) x.den ∧ Below w.heap.size w W0 ∧ W0.heap.size = w.heap.size + 1 :=
  ⟨_, rfl, Box.new w _ _, h1.alloc _, h2.alloc _, held_alloc (Below.refl _ w), by simp⟩
theorem grown_set3 (w : World) (O : Nat) (u0 u1 u2 : Value) : w.grownBy (((w.setCell ⟨O, 0, none⟩ u0).setCell ⟨O, 1, none⟩ u1).setCell ⟨O, 2, none⟩ u2) (some O) :=
  grown_tr (grown_tr (grown_set w O 0 u0) (grown_set _ O 1 u1)) (grown_set _ O 2 u2)
theorem varF_set3 {w : World} {b : Nat} {x0 x1 x2 va vb : Value} {r : F} (h : Box w b #[x0, x1, x2] 25) (hx0 : ∀ x, x0 ≠ .int .u32 x) (hx1 : ∀ x, x1 ≠ .int .u32 x) (hx2 : ∀ x, x2 ≠ .int .u32 x) (h1 : Sl w va r.num) (h2 : Sl w vb r.den) : VarF (((w.setCell ⟨b, 0, none⟩ (.bool r.neg)).setCell ⟨b, 1, none⟩ va).setCell ⟨b, 2, none⟩ vb) b r := by
  have hb1 : Box (w.setCell ⟨b, 0, none⟩ (.bool r.neg)) b #[.bool r.neg, x1, x2] 25 := by simpa using h.set 0 (.bool r.neg)
  have hb2 : Box ((w.setCell ⟨b, 0, none⟩ (.bool r.neg)).setCell ⟨b, 1, none⟩ va) b #[.bool r.neg, va, x2] 25 := by simpa using hb1.set 1 va
  refine ⟨va, vb, end_box h, ?_, ?_⟩
  · exact ((h1.setN (h.cell 0) hx0 _).setN (hb1.cell 1) hx1 _).setN (hb2.cell 2) hx2 _
  · exact ((h2.setN (h.cell 0) hx0 _).setN (hb1.cell 1) hx1 _).setN (hb2.cell 2) hx2 _

end Go.Proofs.Ytaojdlcailpheaa

namespace Go.Proofs.Ytaojdlcailpheaa
open Go.RowKit

theorem lims_ne {l m : List Nat} {k : Nat} (h : lim l k ≠ lim m k) : ¬ l = m := fun e => h (by rw [e])
theorem lims_eq {l m : List Nat} (hl : l.length = m.length) (h : ∀ k, k < l.length → lim l k = lim m k) : l = m := by
  apply List.ext_getElem hl
  intro i h1 h2
  have := h i h1
  rwa [lim_get h1, lim_get h2] at this

set_option maxHeartbeats 1000000 in
theorem equalN_same (b off b' off' n c d : Nat) (l m : List Nat) (w : World) (hn : n ≤ 9223372036854775807) (hpos : 0 < n) (hl : l.length = n) (hm : m.length = n)
    (hc : ∀ i, i < n → w.cell? ⟨b, off + i, none⟩ = some (.int .u32 ((lim l i : Nat) : Int)))
    (hd : ∀ i, i < n → w.cell? ⟨b', off' + i, none⟩ = some (.int .u32 ((lim m i : Nat) : Int))) :
    Calls Try.prog 108 #[.slice (some ⟨b, off, none⟩) n c, .slice (some ⟨b', off', none⟩) n d] w (RetB w (l = m)) := by
  have HL := Lib.hid hl
  have HM := Lib.hid hm
  clear hl hm
  go_enter Try.func108, Try.ntmps108
  go_wp2
  go_loopw [13] (fun t wr => ∃ k : Nat, k ≤ n ∧ t = .int .i64 k ∧ Hid (∀ j, j < k → lim l j = lim m j) ∧ Hid (∃ q, wr = w.drewN q)) (fun t _ => n - (intOf t).toNat)
  case atStart => exact ⟨0, Nat.zero_le _, rfl, Lib.hid (fun j hj => absurd hj (Nat.not_lt_zero j)), ⟨0, rfl⟩⟩
  case round =>
    obtain ⟨k, hk, rfl, hrel, hw⟩ := hrel
    obtain ⟨q, rfl⟩ := hw.out
    by_cases hlt : k < n
    · have h1 : w.cell? ⟨b, off + k, none⟩ = some (.int .u32 ((lim l k : Nat) : Int)) := hc _ hlt
      have h2 : w.cell? ⟨b', off' + k, none⟩ = some (.int .u32 ((lim m k : Nat) : Int)) := hd _ hlt
      clear hc hd hw
      by_cases he : lim l k = lim m k
      · have HE := Lib.hid he
        rw [← he] at h2
        clear he
        go_wp2
        go_quiet (fail)
        go_wp2
        go_roundw
        case rel =>
          refine ⟨k + 1, by omega, by go_num, Lib.hid (fun j hj => ?_), ⟨_, rfl⟩⟩
          rcases Nat.lt_or_ge j k with h | h
          · exact hrel.out j h
          · obtain rfl : j = k := by omega
            exact HE.out
        case measure => simp [intOf]; omega
      · have HE := Lib.hid he
        have hne : ¬ (((lim l k : Nat) : Int) = ((lim m k : Nat) : Int)) := by omega
        have hne2 : (((lim l k : Nat) : Int) == ((lim m k : Nat) : Int)) = false := beq_eq_false_iff_ne.2 hne
        clear he
        go_wp2
        go_quiet (fail)
        go_wp2
        go_ret
        exact ⟨false, rfl, ⟨(fun h => by cases h), fun h => absurd h (lims_ne HE.out)⟩, _, World.drewN_drewN _ _ _⟩
    · obtain rfl : k = n := by omega
      clear hc hd hw
      go_wp2
      go_ret
      exact ⟨true, rfl, ⟨fun _ => lims_eq (by rw [HL.out, HM.out]) (fun j hj => hrel.out j (by rw [HL.out] at hj; exact hj)), fun _ => rfl⟩, _, rfl⟩
theorem equalN_far (a b : Option Addr) (n m c d : Nat) (w : World) (hne : n ≠ m) (hn : n ≤ 9223372036854775807) (hm : m ≤ 9223372036854775807) :
    Calls Try.prog 108 #[.slice a n c, .slice b m d] w fun e w' => e = .returned (.bool false) ∧ w' = w := by
  have hne2 : ((n : Int) == (m : Int)) = false := beq_eq_false_iff_ne.2 (by omega)
  go_enter Try.func108, Try.ntmps108
  go_wp2
  go_ret
  exact ⟨rfl, rfl⟩
theorem equalN_none (a b : Option Addr) (c d : Nat) (w : World) :
    Calls Try.prog 108 #[.slice a 0 c, .slice b 0 d] w fun e w' => e = .returned (.bool true) ∧ w' = w := by
  go_enter Try.func108, Try.ntmps108
  go_wp2
  go_loop [13] (fun t => t = .int .i64 0) (fun _ => 0)
  case atStart => rfl
  case round =>
    subst hrel
    go_wp2
    go_ret
    exact ⟨rfl, rfl⟩
theorem equalN_c (w : World) (v u : Value) (l m : List Nat) (h : Sl w v l) (k : Sl w u m) : Calls Try.prog 108 #[v, u] w (RetB w (l = m)) := by
  obtain ⟨h0, a, c, rfl, h2, h3, h5, h6⟩ := h
  obtain ⟨k0, b, d, rfl, k2, k3, k5, k6⟩ := k
  by_cases hlen : l.length = m.length
  · rcases Nat.eq_zero_or_pos l.length with hz | hp
    · have e1 : l = [] := List.length_eq_zero_iff.1 hz
      have e2 : m = [] := List.length_eq_zero_iff.1 (by omega)
      subst e1; subst e2
      refine (equalN_none a b c d w).mono ?_
      rintro e w' ⟨rfl, rfl⟩
      exact ⟨true, rfl, ⟨fun _ => rfl, fun _ => rfl⟩, 0, rfl⟩
    · obtain ⟨b1, o1, rfl, _, hc⟩ := h6 hp
      obtain ⟨b2, o2, rfl, _, hd⟩ := k6 (by omega)
      rw [← hlen]
      exact equalN_same b1 o1 b2 o2 l.length c d l m w (by omega) hp rfl hlen.symm hc (by rw [hlen]; exact hd)
  · refine (equalN_far a b l.length m.length c d w hlen (by omega) (by omega)).mono ?_
    rintro e w' ⟨rfl, rfl⟩
    exact ⟨false, rfl, ⟨(fun h => by cases h), fun h => absurd (by rw [h]) hlen⟩, 0, rfl⟩

/-- Variable O collects numbers in a row of its own, made since world W1; nothing else of W1 has turned. -/
def OutN (W1 : World) (O k : Nat) (l : List Nat) (W : World) : Prop :=
  ∃ p n c es, Box W O #[.slice p n c] 105 ∧ W.ownsRow W1.heap.size 23 1 (.slice p n c) k es ∧ EntsN W es l ∧ W1.grownBy W (some O)
theorem OutN.after {W1 W W' : World} {O k : Nat} {l : List Nat} (h : OutN W1 O k l W) (hb : Below W.heap.size W W') : OutN W1 O k l W' := by
  obtain ⟨p, n, c, es, h1, h2, h3, h4⟩ := h
  exact ⟨p, n, c, es, h1.after hb, ownsRow_after h2 hb, h3.after hb, grown_below h4 hb⟩
theorem OutN.soft {W1 W W' : World} {O k s : Nat} {l : List Nat} (h : OutN W1 O k l W) (hs : Soft W s) (hle : W1.heap.size ≤ s) (hg : W.grownBy W' (some s)) : OutN W1 O k l W' := by
  obtain ⟨p, n, c, es, h1, h2, h3, h4⟩ := h
  exact ⟨p, n, c, es, h1.soft hs hg, ownsRow_soft h2 hs hg, h3.grown hg hs.noTag, grown_new h4 hg (fun g e => by injection e with e; omega)⟩
/-- One more: a new row behind an append, and the store of it. -/
theorem OutN.push {W1 w3 w5 : World} {O k : Nat} {l : List Nat} {p : Option Addr} {n c x : Nat} {z v' : Value} {es : List Value} {t : TypeId} (hO : O < W1.heap.size) (hbo : Box w3 O #[.slice p n c] 105) (hown : w3.ownsRow W1.heap.size 23 1 (.slice p n c) k es) (he : EntsN w3 es l) (hz : Sl w3 z (limbs x)) (hg : W1.grownBy w3 (some O))
    (hown' : w5.ownsRow W1.heap.size 23 1 v' (k + 1) (es ++ [z])) (hgr : (w3.alloc (.cells #[z] t)).grownBy w5 (Value.slice p n c).ownBlock) :
    Box w5 O #[.slice p n c] 105 ∧ OutN W1 O (k + 1) (l ++ [x]) (w5.setCell ⟨O, 0, none⟩ v') ∧ KeepSoft W1.heap.size w3 (w5.setCell ⟨O, 0, none⟩ v') ∧ Limb w3 (w5.setCell ⟨O, 0, none⟩ v') := by
  have hal : Below w3.heap.size w3 (w3.alloc (.cells #[z] t)) := held_alloc (Below.refl _ w3)
  have htag := ownsRow_tag (ownsRow_after hown hal) (show 23 ≠ 51 by decide)
  have hge := ownsRow_ge (hown.alloc (.cells #[z] t))
  have hge' := ownsRow_ge hown'
  have b5 : Box w5 O #[.slice p n c] 105 := (hbo.alloc _).grown' hgr (by intro e; have := (hge O e.symm).1; omega)
  have hO5 := b5.noTag (show 105 ≠ 51 by decide)
  obtain ⟨p', c', rfl⟩ := ownsRow_shape hown'
  refine ⟨b5, ⟨p', _, c', es ++ [z], by simpa using b5.set 0 (.slice p' (k + 1) c'), ?_, ?_, ?_⟩, ?_, ?_⟩
  · refine hown'.kept (grown_set w5 O 0 _) ?_
    cases hb : (Value.slice p' (k + 1) c').ownBlock with
    | none => exact .inl rfl
    | some g => exact .inr (by intro e; injection e with e; have := (hge' g hb).1; omega)
  · exact (((he.snoc hz).after hal).grown hgr htag).grown (grown_set w5 O 0 _) hO5
  · exact grown_tr (grown_new (grown_tr hg (World.grownBy_alloc w3 _ (some O))) hgr (fun g e => (hge g e).1)) (grown_set w5 O 0 _)
  · exact (((KeepSoft.refl W1.heap.size w3).below hal).grown hgr (fun g e => (hge g e).2)).setCell (b5.cell 0)
  · exact ((Limb.of_below hal).trans (Limb.of_grown hgr htag)).trans (Limb.of_grown (grown_set w5 O 0 _) hO5)
end Go.Proofs.Ytaojdlcailpheaa

namespace Go.Proofs.Ytaojdlcailpheaa

theorem wide_fn (f : FuncId) : Fence.wide.fn f = True := eq_true trivial
/-- No operation is put off. -/
def noDefer (ops : List Oper) : Bool := ops.all fun o => match o.op with
  | .defer _ => false
  | _ => true
theorem noDefer_spec {ops : List Oper} (h : noDefer ops = true) {o : Oper} (ho : o ∈ ops) : ∀ c, o.op ≠ .defer c := by
  intro c e
  have := List.all_eq_true.1 h o ho
  rw [e] at this
  cases this
section
variable {F : Fence} {n : Nat} {P : Program} {ops : Array Oper} {md : Region.Mode} {C : World → Prop}
theorem quiet_op {o : Oper} {a : Act} {K : Act → Prop} {K' : Act → World → Prop} {Q' : Exit → Act → World → Prop} {w : World} (hd : ∀ c, o.op ≠ .defer c) (hw : C w) (h : ∀ a w', C w' → K a → K' a w')
    (ha : o.askedIn F P a C) (hh : o.quietIn F n P a C K) : o.wpIn F n P a w K' Q' := by
  obtain ⟨v, h1, h2⟩ := hh
  have h3 := h1 w hw
  unfold Oper.quietAtIn at h3
  unfold Oper.wpIn
  refine ⟨ha w hw, ?_⟩
  rw [Oper.semAt_eq _ _ _ hd]
  generalize (execOp a.eval o).run P w = r at *
  cases r with
  | ok x w' =>
    cases x <;> simp only [Oper.quietUponIn] at h3 <;> simp only [Oper.uponIn]
    case value u =>
      obtain ⟨e1, e2⟩ := h3
      rw [e1, e2]
      exact h _ _ hw h2
    case skip =>
      obtain ⟨e1, e2⟩ := h3
      rw [e1, ← e2]
      exact h _ _ hw h2
    case enter f args =>
      obtain ⟨e1, hd, hc⟩ := h3
      rw [e1]
      exact ⟨hd, hc.mono fun e w'' ⟨he, hw''⟩ => by subst he; exact h _ _ hw'' h2⟩
  | halt x w' => simp only [Oper.quietUponIn] at h3
theorem quiet_i {i : Nat} {a : Act} {K : Act → Prop} {K' : Act → World → Prop} {Q' : Exit → Act → World → Prop} {w : World} (hd : noDefer ops.toList = true) (hC : C w) (h : ∀ a w', C w' → K a → K' a w')
    (hh : qOpIn F n P ops C i K a) : wpOpIn F n P ops Q' i K' a w := by
  unfold qOpIn at hh
  unfold wpOpIn
  split
  · rename_i ho; simp only [ho] at hh; exact h _ _ hC hh
  · rename_i o ho
    simp only [ho] at hh
    obtain ⟨ha, hh⟩ := hh
    have hmem : o ∈ ops.toList := by
      rw [← Array.getElem?_toList] at ho
      exact List.mem_of_getElem? ho
    split
    · rename_i hw; simp only [hw, if_true] at hh; exact quiet_op (noDefer_spec hd hmem) hC h ha hh
    · rename_i hw; simp only [hw] at hh; exact ⟨ha w hC, h _ _ hC hh⟩
theorem quiet_any {Q : Act → Prop} {Q' : Exit → Act → World → Prop} (hd : noDefer ops.toList = true) (hQ : ∀ a w, C w → Q a → Q' .normal a w) : ∀ (fuel : Nat) (listed : Array Bool) (a : Act) (w : World), C w →
    wpAnyQIn F n P md ops C Q fuel listed a → wpAnyIn F n P md ops Q' fuel listed a w
  | 0, _, _, _, hw, h => ⟨h.1, hQ _ _ hw h.2⟩
  | fuel + 1, _, _, _, hw, h => ⟨fun h0 => hQ _ _ hw (h.1 h0), fun i hi => quiet_i hd hw (fun a' w' hw' => quiet_any hd hQ fuel _ a' w' hw') (h.2 i hi)⟩
theorem wpIn_quiet_round {id : Nat} {Q : Exit → Act → World → Prop} {a : Act} {w : World} {l : List Oper} (hd : noDefer l = true) (hm : P.follows .mixedOrders = true) (hB : Region.lexB .any l.toArray = true)
    (h : wpQuietIn F n P l.toArray (fun w' => ∃ n, w' = w.drewN n) (fun a' => ∀ w', (∃ n, w' = w.drewN n) → Q .normal a' w') l a) : (Code.region id l.toArray true).wpIn F n P Q a w := by
  simp only [Region.lexB, Bool.and_eq_true] at hB
  refine wpIn_region_any hm (quiet_any (C := fun w' => ∃ n, w' = w.drewN n) (Q := fun a' => ∀ w', (∃ n, w' = w.drewN n) → Q .normal a' w') (by simpa using hd) (fun _ w' hw' h => h w' hw') _ _ _ _ ⟨1, rfl⟩ ?_)
  have := wpAnyQIn_lex (F := F) (n := n) (C := fun w' => ∃ n, w' = w.drewN n) (md := .any) hB.1 l 0 (Array.replicate l.toArray.size false) a (by simp) (by simpa using hB.2) (by simpa using h)
  simpa using this
end
end Go.Proofs.Ytaojdlcailpheaa
