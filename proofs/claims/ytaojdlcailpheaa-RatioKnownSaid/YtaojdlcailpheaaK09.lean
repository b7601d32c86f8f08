/- Walks of package ratio: unit, Floor.
   Plain: continued fractions: the simplest fraction of an interval, and the nearest fraction with a small denominator. No program in sight.
   Plain: the nearest fraction with a small denominator, by a continued fraction. No program in sight. -/
import Derived.Test.YtaojdlcailpheaaK08
import Derived.Test.YtaojdlcailpheaaK01
set_option linter.unusedVariables false
namespace Go.Proofs.Ytaojdlcailpheaa
open Go.RowKit

theorem unit_c (w : World) : Calls Try.prog 76 #[] w fun e w' => ∃ v, e = .returned v ∧ Sl w' v (limbs 1) ∧ Below w.heap.size w w' := by
  go_enter Try.func76, Try.ntmps76
  go_wp2_with fail
  go_ret
  refine ⟨_, rfl, ?_, held_alloc (Below.refl _ w)⟩
  rw [limbs_one]
  exact Sl.of_row (l := [1]) (Row32.lit1 w 1 1 rfl) (Lb.cons (by omega) Lb.nil) (by simp) (by omega)

/-- The size of what Floor returns. -/
def floorN (neg : Bool) (a b : Nat) : Nat := a / b + (if neg = true ∧ a % b ≠ 0 then 1 else 0)
/-- What Floor returns. -/
noncomputable def floorF (x : F) : F × Int := open Classical in if ValidF x then (fr (x.neg && decide (0 < floorN x.neg (val x.num) (val x.den))) (floorN x.neg (val x.num) (val x.den)) 1, 0) else (F0, 1)
theorem floorF_yes {neg : Bool} {a b : Nat} (h : Ok neg a b) : floorF (fr neg a b) = (fr (neg && decide (0 < floorN neg a b)) (floorN neg a b) 1, 0) := by
  unfold floorF
  rw [if_pos (validF_fr.2 h)]
  simp only [fr, val_limbs]
theorem floorF_no {x : F} (h : ¬ ValidF x) : floorF x = (F0, 1) := by unfold floorF; rw [if_neg h]
theorem floorN_len {neg : Bool} {a b : Nat} (h : Ok neg a b) : (limbs (floorN neg a b)).length ≤ 32 := by
  refine Nat.le_trans (limbs_len_mono ?_) h.n32
  unfold floorN
  have h1 := Nat.div_add_mod a b
  have hb := h.pos
  split
  · rename_i hc
    rcases Nat.lt_or_ge 1 b with h2 | h2
    · have := Nat.mod_lt a hb
      have : 1 * (a / b) ≤ b * (a / b) := Nat.mul_le_mul_right _ hb
      omega
    · obtain rfl : b = 1 := by omega
      have := hc.2
      rw [Nat.mod_one] at this; omega
  · have : 1 * (a / b) ≤ b * (a / b) := Nat.mul_le_mul_right _ hb
    omega

set_option maxRecDepth 100000 in
set_option maxHeartbeats 2000000 in
theorem Floor_c (w : World) (v : Value) (x : F) (h : IsF w v x) : Calls Try.prog 35 #[v] w (RetF w (floorF x)) := by
  have HX := h
  obtain ⟨va, vb, rfl, h1, h2⟩ := h
  obtain ⟨p, cp, rfl, _, _⟩ := h1.shape
  obtain ⟨q, cq, rfl, _, _⟩ := h2.shape
  obtain ⟨W0, hW, bx, br, hsz, hb0⟩ := start2 w #[.bool x.neg, .slice p x.num.length cp, .slice q x.den.length cq] #[.bool false, .slice none 0 0, .slice none 0 0] 25
  obtain ⟨c0, c1, c2⟩ := bx.cells3
  have H0 := Lib.hid (HX.after hb0)
  have HB0 := Lib.hid hb0
  have BX := Lib.hid bx
  have BR := Lib.hid br
  clear HX h1 h2 bx br hb0
  by_cases hv : ValidF x
  · obtain ⟨neg, a, b, rfl, hok⟩ : ∃ neg a b, x = fr neg a b ∧ Ok neg a b := ⟨_, _, _, hv.eq, hv.2.2⟩
    have HV := Lib.hid hv
    have hla : (limbs a).length ≤ 1000000 := Nat.le_trans hok.n32 (by omega)
    have hpos := hok.pos
    have hsgn : neg = true → 0 < a := fun e => by
      rcases Nat.eq_zero_or_pos a with h0 | h0
      · have := hok.sign h0; rw [e] at this; cases this
      · exact h0
    rw [floorF_yes hok]
    simp only [fr] at c0 c1 c2 hW
    replace H0 : Hid (IsF W0 (.agg #[.bool neg, .slice p (limbs a).length cp, .slice q (limbs b).length cq]) (fr neg a b)) := H0
    replace BX : Hid (Box W0 w.heap.size #[.bool neg, .slice p (limbs a).length cp, .slice q (limbs b).length cq] 25) := BX
    show Calls _ _ #[.agg #[.bool neg, .slice p (limbs a).length cp, .slice q (limbs b).length cq]] w _
    obtain ⟨qq, hqq⟩ : ∃ qq, a / b = qq := ⟨_, rfl⟩
    obtain ⟨rr, hrr⟩ : ∃ rr, a % b = rr := ⟨_, rfl⟩
    have hdm := Nat.div_add_mod a b
    rw [hqq, hrr] at hdm
    have hq0 : neg = true → rr = 0 → 0 < qq := fun e e2 => by
      have := hsgn e
      rcases Nat.eq_zero_or_pos qq with h0 | h0
      · rw [h0, e2] at hdm; omega
      · exact h0
    have HD := Lib.hid hdm
    have HFN : Hid (floorN neg a b = qq + (if neg = true ∧ rr ≠ 0 then 1 else 0)) := by show _ = _; unfold floorN; rw [hqq, hrr]
    have hql : (limbs qq).length ≤ 1000 := Nat.le_trans (limbs_len_mono (by rw [← hqq]; exact Nat.div_le_self a b)) (Nat.le_trans hok.n32 (by omega))
    clear hv hdm hsgn
    go_enter Try.func35, Try.ntmps35
    go_upto_region 1 with fail
    rw [← hW]
    clear hW
    go_wp2_with fail
    refine (Valid_c _ _ _ H0.out).mono ?_
    intro e w1 hr
    obtain ⟨rfl, hb1⟩ := hr.yes HV.out
    have HB1 := Lib.hid (HB0.out.trans (hb1.mono HB0.out.size))
    have BX1 := Lib.hid (BX.out.after hb1)
    have BR1 := Lib.hid (BR.out.after hb1)
    have H1 := Lib.hid (H0.out.after hb1)
    clear hr hb1 c0 c1 c2 H0 HB0 BX BR HV hok
    obtain ⟨c0, c1, c2⟩ := BX1.out.cells3
    have G1 : Hid (Sl w1 (.slice p (limbs a).length cp) (limbs a)) := H1.out.parts.2.1
    have G2 : Hid (Sl w1 (.slice q (limbs b).length cq) (limbs b)) := H1.out.parts.2.2
    go_upto_region 3 with fail
    go_wp2_with fail
    refine (divide_c _ _ _ a b G1.out G2.out hpos hla).mono ?_
    rw [hqq, hrr]
    rintro e w2 ⟨v1, v2, rfl, hv1, hv2, hb2⟩
    obtain ⟨pq, cq', rfl, _, _⟩ := hv1.shape
    obtain ⟨pr, cr', rfl, _, _⟩ := hv2.shape
    have HB2 := Lib.hid (HB1.out.trans (hb2.mono HB1.out.size))
    have BX2 := Lib.hid (BX1.out.after hb2)
    have BR2 := Lib.hid (BR1.out.after hb2)
    have HZ := Lib.hid hv1
    clear hv1 hv2 hb2 c0 c1 c2 HB1 BX1 BR1 G1 G2 hqq hrr H1
    cases neg with
    | false =>
      have HE : Hid (fr (false && decide (0 < floorN false a b)) (floorN false a b) 1 = ⟨false, limbs qq, limbs 1⟩) := by
        show _ = _
        rw [HFN.out, if_neg (by simp)]; rfl
      obtain ⟨c0, c1, c2⟩ := BX2.out.cells3
      go_wp2_with fail
      refine (unit_c _).mono ?_
      rintro e w5 ⟨v5, rfl, hv5, hb5⟩
      obtain ⟨pu, cu, rfl, _, _⟩ := hv5.shape
      have HZ5 := Lib.hid (HZ.out.after hb5)
      have HU := Lib.hid hv5
      have HB5 := Lib.hid (HB2.out.trans (hb5.mono HB2.out.size))
      have BR5 := Lib.hid (BR2.out.after hb5)
      clear hv5 hb5 c0 c1 c2 HZ HB2 BR2 BX2
      obtain ⟨r0, r1, r2⟩ := BR5.out.cells3
      have f0 := BR5.out.frozen 0
      have f1 := BR5.out.frozen 1
      have f2 := BR5.out.frozen 2
      have hlt := BR5.out.lt
      go_wp2_with fail
      obtain ⟨e0, e1, e2⟩ := (end_box BR5.out (y0 := .bool false) (y1 := .slice pq (limbs qq).length cq') (y2 := .slice pu (limbs 1).length cu)).cells3
      refine bodyPost_ret (v := .tuple #[.agg #[.bool false, .slice pq (limbs qq).length cq', .slice pu (limbs 1).length cu], .int .i64 0]) (by simp [results, Try.results35, go_sem, e0, e1, e2]) rfl ?_
      refine ⟨_, rfl, ?_, ((HB5.out.setCell (Nat.le_succ _) _).setCell (Nat.le_succ _) _).setCell (Nat.le_succ _) _⟩
      rw [HE.out]
      exact IsF.result BR5.out (fun _ h => by cases h) (fun _ h => by cases h) HZ5.out HU.out
    | true =>
      by_cases hr0 : rr = 0
      · have hp := hq0 rfl hr0
        have hp2 := limbs_len_pos hp
        have HE : Hid (fr (true && decide (0 < floorN true a b)) (floorN true a b) 1 = ⟨true, limbs qq, limbs 1⟩) := by
          show _ = _
          rw [HFN.out, if_neg (by simp [hr0]), Nat.add_zero, decide_eq_true hp]; rfl
        have hz : (limbs rr).length ≤ 0 := by rw [hr0, limbs_zero]; exact Nat.le_refl _
        clear hr0
        obtain ⟨c0, c1, c2⟩ := BX2.out.cells3
        go_wp2_with fail
        refine (unit_c _).mono ?_
        rintro e w5 ⟨v5, rfl, hv5, hb5⟩
        obtain ⟨pu, cu, rfl, _, _⟩ := hv5.shape
        have HZ5 := Lib.hid (HZ.out.after hb5)
        have HU := Lib.hid hv5
        have HB5 := Lib.hid (HB2.out.trans (hb5.mono HB2.out.size))
        have BR5 := Lib.hid (BR2.out.after hb5)
        clear hv5 hb5 c0 c1 c2 HZ HB2 BR2 BX2
        obtain ⟨r0, r1, r2⟩ := BR5.out.cells3
        have f0 := BR5.out.frozen 0
        have f1 := BR5.out.frozen 1
        have f2 := BR5.out.frozen 2
        have hlt := BR5.out.lt
        go_wp2_with fail
        obtain ⟨e0, e1, e2⟩ := (end_box BR5.out (y0 := .bool true) (y1 := .slice pq (limbs qq).length cq') (y2 := .slice pu (limbs 1).length cu)).cells3
        refine bodyPost_ret (v := .tuple #[.agg #[.bool true, .slice pq (limbs qq).length cq', .slice pu (limbs 1).length cu], .int .i64 0]) (by simp [results, Try.results35, go_sem, e0, e1, e2]) rfl ?_
        refine ⟨_, rfl, ?_, ((HB5.out.setCell (Nat.le_succ _) _).setCell (Nat.le_succ _) _).setCell (Nat.le_succ _) _⟩
        rw [HE.out]
        exact IsF.result BR5.out (fun _ h => by cases h) (fun _ h => by cases h) HZ5.out HU.out
      · have hp3 := limbs_len_pos (show 0 < rr by omega)
        have HE : Hid (fr (true && decide (0 < floorN true a b)) (floorN true a b) 1 = ⟨true, limbs (qq + 1), limbs 1⟩) := by
          show _ = _
          rw [HFN.out, if_pos ⟨rfl, hr0⟩, decide_eq_true (by omega)]; rfl
        have hp2 := limbs_len_pos (show 0 < qq + 1 by omega)
        obtain ⟨c0, c1, c2⟩ := BX2.out.cells3
        go_wp2_with fail
        refine (unit_c _).mono ?_
        rintro e w3 ⟨v3, rfl, hv3, hb3⟩
        go_wp2_with fail
        refine (plus_n _ _ _ qq 1 (HZ.out.after hb3) hv3 (by omega) (by rw [limbs_one]; simp)).mono ?_
        rintro e w4 ⟨v4, rfl, hv4, hb4⟩
        obtain ⟨pz, cz, rfl, _, _⟩ := hv4.shape
        have hb := hb3.trans (hb4.mono hb3.size)
        replace HZ := Lib.hid hv4
        replace HB2 := Lib.hid (HB2.out.trans (hb.mono HB2.out.size))
        replace BX2 := Lib.hid (BX2.out.after hb)
        replace BR2 := Lib.hid (BR2.out.after hb)
        clear hv4 hb hb3 hb4 hv3 c0 c1 c2
        obtain ⟨c0, c1, c2⟩ := BX2.out.cells3
        go_wp2_with fail
        refine (unit_c _).mono ?_
        rintro e w5 ⟨v5, rfl, hv5, hb5⟩
        obtain ⟨pu, cu, rfl, _, _⟩ := hv5.shape
        have HZ5 := Lib.hid (HZ.out.after hb5)
        have HU := Lib.hid hv5
        have HB5 := Lib.hid (HB2.out.trans (hb5.mono HB2.out.size))
        have BR5 := Lib.hid (BR2.out.after hb5)
        clear hv5 hb5 c0 c1 c2 HZ HB2 BR2 BX2
        obtain ⟨r0, r1, r2⟩ := BR5.out.cells3
        have f0 := BR5.out.frozen 0
        have f1 := BR5.out.frozen 1
        have f2 := BR5.out.frozen 2
        have hlt := BR5.out.lt
        go_wp2_with fail
        obtain ⟨e0, e1, e2⟩ := (end_box BR5.out (y0 := .bool true) (y1 := .slice pz (limbs (qq + 1)).length cz) (y2 := .slice pu (limbs 1).length cu)).cells3
        refine bodyPost_ret (v := .tuple #[.agg #[.bool true, .slice pz (limbs (qq + 1)).length cz, .slice pu (limbs 1).length cu], .int .i64 0]) (by simp [results, Try.results35, go_sem, e0, e1, e2]) rfl ?_
        refine ⟨_, rfl, ?_, ((HB5.out.setCell (Nat.le_succ _) _).setCell (Nat.le_succ _) _).setCell (Nat.le_succ _) _⟩
        rw [HE.out]
        exact IsF.result BR5.out (fun _ h => by cases h) (fun _ h => by cases h) HZ5.out HU.out
  · have HV := Lib.hid hv
    have hsp := Lib.hid (floorF_no hv)
    clear hv
    go_enter Try.func35, Try.ntmps35
    go_upto_region 1 with fail
    rw [← hW]
    clear hW
    go_wp2_with fail
    refine (Valid_c _ _ _ H0.out).mono ?_
    intro e w1 hr
    obtain ⟨rfl, hb1⟩ := hr.no HV.out
    have BR1 := Lib.hid (BR.out.after hb1)
    have HB1 := Lib.hid (HB0.out.trans (hb1.mono HB0.out.size))
    clear hr hb1 c0 c1 c2 H0
    obtain ⟨r0, r1, r2⟩ := BR1.out.cells3
    have f0 := BR1.out.frozen 0
    have f1 := BR1.out.frozen 1
    have f2 := BR1.out.frozen 2
    have hlt := BR1.out.lt
    go_wp2_with fail
    obtain ⟨e0, e1, e2⟩ := (end_box BR1.out (y0 := .bool false) (y1 := .slice none 0 0) (y2 := .slice none 0 0)).cells3
    refine bodyPost_ret (v := .tuple #[.agg #[.bool false, .slice none 0 0, .slice none 0 0], .int .i64 1]) (by simp [results, Try.results35, go_sem, e0, e1, e2]) rfl ?_
    rw [hsp.out]
    exact ⟨_, rfl, IsF.zero _, ((HB1.out.setCell (Nat.le_succ _) _).setCell (Nat.le_succ _) _).setCell (Nat.le_succ _) _⟩
end Go.Proofs.Ytaojdlcailpheaa

namespace Go.Proofs.Ytaojdlcailpheaa

/-- The parts of the continued fraction of a / b. -/
def cf (a b : Nat) : List Nat := if h : b = 0 then [] else if a % b = 0 then [a / b] else a / b :: cf b (a % b)
termination_by b
decreasing_by exact Nat.mod_lt _ (by omega)
theorem cf_last {a b : Nat} (hb : 0 < b) (h : a % b = 0) : cf a b = [a / b] := by rw [cf, dif_neg (by omega), if_pos h]
theorem cf_more {a b : Nat} (hb : 0 < b) (h : a % b ≠ 0) : cf a b = a / b :: cf b (a % b) := by rw [cf, dif_neg (by omega), if_neg h]
theorem cf_ne {a b : Nat} (hb : 0 < b) : cf a b ≠ [] := by
  by_cases h : a % b = 0
  · rw [cf_last hb h]; simp
  · rw [cf_more hb h]; simp

/-- A continued fraction so far: the last two fractions that it gives. -/
structure Ch where
  num : Nat
  den : Nat
  on : Nat
  od : Nat
def Ch.begun : Ch := ⟨1, 0, 0, 1⟩
def Ch.after (c : Ch) (q : Nat) : Ch := ⟨q * c.num + c.on, q * c.den + c.od, c.num, c.den⟩

/-- The chain of the simplest fraction, by the parts of both ends. -/
def simpG (c : Ch) : List Nat → List Nat → Ch
  | [], _ => c
  | x :: l, [] => c.after (if l = [] then x else x + 1)
  | x :: l, y :: h =>
    if x = y then (if l = [] ∨ h = [] then c.after x else simpG (c.after x) l h)
    else if y < x then c.after (if h = [] then y else y + 1) else c.after (if l = [] then x else x + 1)
/-- The simplest fraction from a / b to c / d. -/
def simpN (a b c d : Nat) : Nat × Nat :=
  if h : b = 0 ∨ d = 0 ∨ a % b = 0 then (a / b, 1)
  else if c / d ≠ a / b then (a / b + 1, 1)
  else (a / b * (simpN d (c % d) b (a % b)).1 + (simpN d (c % d) b (a % b)).2, (simpN d (c % d) b (a % b)).1)
termination_by b + d
decreasing_by all_goals (have := Nat.mod_lt a (show 0 < b by omega); have := Nat.mod_lt c (show 0 < d by omega); omega)
theorem simpN_last {a b c d : Nat} (h : a % b = 0) : simpN a b c d = (a / b, 1) := by rw [simpN, dif_pos (by omega)]
theorem simpN_above {a b c d : Nat} (hb : 0 < b) (hd : 0 < d) (h : a % b ≠ 0) (hc : c / d ≠ a / b) : simpN a b c d = (a / b + 1, 1) := by
  rw [simpN, dif_neg (by omega), if_pos hc]
theorem simpN_in {a b c d : Nat} (hb : 0 < b) (hd : 0 < d) (h : a % b ≠ 0) (hc : c / d = a / b) : simpN a b c d = (a / b * (simpN d (c % d) b (a % b)).1 + (simpN d (c % d) b (a % b)).2, (simpN d (c % d) b (a % b)).1) := by
  conv => lhs; rw [simpN]
  rw [dif_neg (by omega), if_neg (by omega)]
/-- Where both ends have the same whole part: the rests, turned over, are an interval. -/
theorem rest_le {a b c d : Nat} (hq : c / d = a / b) (h : a * d ≤ c * b) : d * (a % b) ≤ b * (c % d) := by
  have h1 := Nat.div_add_mod a b
  have h2 := Nat.div_add_mod c d
  rw [hq] at h2
  generalize a / b = q at *
  generalize a % b = r at *
  generalize c % d = s at *
  subst h1; subst h2
  have e1 : (b * q + r) * d = b * q * d + d * r := by grind
  have e2 : (d * q + s) * b = b * q * d + b * s := by grind
  omega
theorem rest_pos {a b c d : Nat} (hb : 0 < b) (hr : a % b ≠ 0) (hq : c / d = a / b) (hd : 0 < d) (h : a * d ≤ c * b) : 0 < c % d := by
  have h1 := rest_le hq h
  have h2 : 0 < d * (a % b) := Nat.mul_pos hd (by omega)
  rcases Nat.eq_zero_or_pos (c % d) with h0 | h0
  · rw [h0] at h1; omega
  · exact h0
theorem div_le_of {a b c d : Nat} (hb : 0 < b) (hd : 0 < d) (h : a * d ≤ c * b) : a / b ≤ c / d := by
  rw [Nat.le_div_iff_mul_le hd]
  have h1 : b * (a / b) ≤ a := Nat.mul_div_le a b
  have h2 : b * (a / b) * d ≤ a * d := Nat.mul_le_mul_right d h1
  have h3 : (a / b * d) * b ≤ c * b := by
    have : a / b * d * b = b * (a / b) * d := by grind
    omega
  exact Nat.le_of_mul_le_mul_right h3 hb
/-- A chain's last fraction behind a fraction n / m of what follows. -/
def Ch.app (c : Ch) (p : Nat × Nat) : Nat × Nat := (c.num * p.1 + c.on * p.2, c.den * p.1 + c.od * p.2)
theorem app_after (c : Ch) (q : Nat) : c.app (q, 1) = ((c.after q).num, (c.after q).den) := by
  unfold Ch.app Ch.after
  simp [Nat.mul_comm]
theorem app_app (c : Ch) (q n m : Nat) : (c.after q).app (n, m) = c.app (q * n + m, n) := by
  unfold Ch.app Ch.after
  simp only [Prod.mk.injEq]
  constructor <;> grind
theorem simp_same : ∀ (k a b c d : Nat) (ch : Ch), b + d = k → 0 < b → 0 < d → a * d ≤ c * b →
    ((simpG ch (cf a b) (cf c d)).num, (simpG ch (cf a b) (cf c d)).den) = ch.app (simpN a b c d) ∧ ((simpG ch (cf c d) (cf a b)).num, (simpG ch (cf c d) (cf a b)).den) = ch.app (simpN a b c d) := by
  intro k
  induction k using Nat.strongRecOn with
  | _ k ih =>
    intro a b c d ch hk hb hd hle
    have hq := div_le_of hb hd hle
    obtain ⟨y, h, hy⟩ : ∃ y h, cf c d = y :: h ∧ y = c / d ∧ (h = [] ↔ c % d = 0) ∧ (c % d ≠ 0 → h = cf d (c % d)) := by
      by_cases hc : c % d = 0
      · exact ⟨_, [], cf_last hd hc, rfl, by simp [hc], fun h => absurd hc h⟩
      · exact ⟨_, _, cf_more hd hc, rfl, by simp [hc, cf_ne (a := d) (b := c % d) (by omega)], fun _ => rfl⟩
    obtain ⟨e1, rfl, e2, e3⟩ := hy
    by_cases hr : a % b = 0
    · rw [simpN_last hr, cf_last hb hr, e1, app_after]
      by_cases hxy : c / d = a / b
      · simp only [simpG, hxy]
        simp
      · have h1 : ¬ c / d < a / b := by omega
        have h2 : a / b < c / d := by omega
        simp only [simpG, if_neg (Ne.symm hxy), if_neg hxy, if_neg h1, if_pos h2]
        simp
    · by_cases hxy : c / d = a / b
      · have hs := rest_pos hb hr hxy hd hle
        have hl := rest_le hxy hle
        have hlt1 := Nat.mod_lt a hb
        have hlt2 := Nat.mod_lt c hd
        obtain ⟨i1, i2⟩ := ih (c % d + a % b) (by omega) d (c % d) b (a % b) (ch.after (a / b)) rfl hs (by omega) hl
        have hne1 : cf d (c % d) ≠ [] := cf_ne hs
        have hne2 : cf b (a % b) ≠ [] := cf_ne (by omega)
        rw [simpN_in hb hd hr hxy, ← app_app, cf_more hb hr, cf_more hd (by omega), hxy]
        simp only [simpG, if_true, hne1, hne2, or_self, if_false]
        exact ⟨i2, i1⟩
      · have h1 : ¬ c / d < a / b := by omega
        have h2 : a / b < c / d := by omega
        have hne2 : cf b (a % b) ≠ [] := cf_ne (by omega)
        rw [simpN_above hb hd hr hxy, cf_more hb hr, e1, app_after]
        simp only [simpG, if_neg (Ne.symm hxy), if_neg hxy, if_neg h1, if_pos h2, hne2, if_false]
        simp
/-- It lies in the interval, and none with a lesser denominator or numerator does. -/
theorem simp_min : ∀ (k a b c d : Nat), b + d = k → 0 < b → 0 < d → a * d ≤ c * b →
    0 < (simpN a b c d).2 ∧ a * (simpN a b c d).2 ≤ (simpN a b c d).1 * b ∧ (simpN a b c d).1 * d ≤ c * (simpN a b c d).2 ∧
    ∀ p q, 0 < q → a * q ≤ p * b → p * d ≤ c * q → (simpN a b c d).2 ≤ q ∧ (simpN a b c d).1 ≤ p := by
  intro k
  induction k using Nat.strongRecOn with
  | _ k ih =>
    intro a b c d hk hb hd hle
    have hq := div_le_of hb hd hle
    have ha := Nat.div_add_mod a b
    have hc := Nat.div_add_mod c d
    by_cases hr : a % b = 0
    · rw [simpN_last hr]
      rw [hr, Nat.add_zero] at ha
      refine ⟨Nat.one_pos, (by show a * 1 ≤ a / b * b; rw [Nat.mul_one, Nat.mul_comm]; omega), ?_, fun p q h0 h1 h2 => ⟨h0, ?_⟩⟩
      · have : d * (a / b) ≤ d * (c / d) := Nat.mul_le_mul_left d hq
        have e : a / b * d = d * (a / b) := Nat.mul_comm _ _
        show a / b * d ≤ c * 1
        omega
      · have h3 : a / b * 1 ≤ a / b * q := Nat.mul_le_mul_left _ h0
        have h4 : (a / b * q) * b ≤ p * b := by
          have : a / b * q * b = b * (a / b) * q := by grind
          rw [this, ha]; exact h1
        have := Nat.le_of_mul_le_mul_right h4 hb
        show a / b ≤ p
        omega
    · have hpq : ∀ p q, 0 < q → a * q ≤ p * b → a / b * q < p := by
        intro p q h0 h1
        rcases Nat.lt_or_ge (a / b * q) p with h | h
        · exact h
        · have h3 : p * b ≤ a / b * q * b := Nat.mul_le_mul_right b h
          have e : a * q = a / b * q * b + a % b * q := by
            conv => lhs; rw [← ha]
            grind
          have : 0 < a % b * q := Nat.mul_pos (by omega) h0
          omega
      by_cases hxy : c / d = a / b
      · have hs := rest_pos hb hr hxy hd hle
        have hl := rest_le hxy hle
        have hlt1 := Nat.mod_lt a hb
        have hlt2 := Nat.mod_lt c hd
        obtain ⟨i1, i2, i3, i4⟩ := ih (c % d + a % b) (by omega) d (c % d) b (a % b) rfl hs (by omega) hl
        rw [simpN_in hb hd hr hxy]
        obtain ⟨⟨n, m⟩, hnm⟩ : ∃ nm, simpN d (c % d) b (a % b) = nm := ⟨_, rfl⟩
        rw [hnm] at i1 i2 i3 i4 ⊢
        simp only at i1 i2 i3 i4 ⊢
        rw [hxy] at hc
        generalize a / b = u at *
        generalize a % b = r at *
        generalize c % d = s at *
        have hn : 0 < n := by
          rcases Nat.eq_zero_or_pos n with h0 | h0
          · subst h0
            have : 0 < d * m := Nat.mul_pos hd i1
            omega
          · exact h0
        refine ⟨hn, ?_, ?_, fun p q h0 h1 h2 => ?_⟩
        · have e1 : a * n = b * u * n + n * r := by rw [← ha]; grind
          have e2 : (u * n + m) * b = b * u * n + b * m := by grind
          omega
        · have e1 : (u * n + m) * d = d * u * n + d * m := by grind
          have e2 : c * n = d * u * n + n * s := by rw [← hc]; grind
          omega
        · have h3 := hpq p q h0 h1
          obtain ⟨t, rfl⟩ : ∃ t, p = u * q + t := ⟨p - u * q, by omega⟩
          have h4 : d * t ≤ q * s := by
            have e1 : (u * q + t) * d = d * u * q + d * t := by grind
            have e2 : c * q = d * u * q + q * s := by rw [← hc]; grind
            omega
          have h5 : q * r ≤ b * t := by
            have e1 : a * q = b * u * q + q * r := by rw [← ha]; grind
            have e2 : (u * q + t) * b = b * u * q + b * t := by grind
            omega
          obtain ⟨j1, j2⟩ := i4 q t (by omega) h4 h5
          refine ⟨j2, ?_⟩
          have := Nat.mul_le_mul_left u j2
          omega
      · have h2 : a / b + 1 ≤ c / d := by omega
        rw [simpN_above hb hd hr hxy]
        refine ⟨Nat.one_pos, ?_, ?_, fun p q h0 h1 h2 => ⟨h0, ?_⟩⟩
        · have hlt1 := Nat.mod_lt a hb
          have e : (a / b + 1) * b = b * (a / b) + b := by grind
          show a * 1 ≤ (a / b + 1) * b
          omega
        · have : d * (a / b + 1) ≤ d * (c / d) := Nat.mul_le_mul_left d h2
          have e : (a / b + 1) * d = d * (a / b + 1) := Nat.mul_comm _ _
          show (a / b + 1) * d ≤ c * 1
          omega
        · have h3 := hpq p q h0 h1
          have h4 : a / b * 1 ≤ a / b * q := Nat.mul_le_mul_left _ h0
          show a / b + 1 ≤ p
          omega
theorem simp_coprime {a b c d : Nat} (hb : 0 < b) (hd : 0 < d) (h : a * d ≤ c * b) : Nat.gcd (simpN a b c d).1 (simpN a b c d).2 = 1 := by
  obtain ⟨h1, h2, h3, h4⟩ := simp_min _ a b c d rfl hb hd h
  obtain ⟨x, y, _, e1, e2⟩ := Nat.exists_coprime (simpN a b c d).1 (simpN a b c d).2
  have hg : 0 < Nat.gcd (simpN a b c d).1 (simpN a b c d).2 := Nat.gcd_pos_of_pos_right _ h1
  generalize Nat.gcd (simpN a b c d).1 (simpN a b c d).2 = g at *
  generalize (simpN a b c d).1 = n at *
  generalize (simpN a b c d).2 = m at *
  have hy : 0 < y := by
    rcases Nat.eq_zero_or_pos y with h0 | h0
    · rw [h0, Nat.zero_mul] at e2; omega
    · exact h0
  have k1 : a * y ≤ x * b := by
    refine Nat.le_of_mul_le_mul_right ?_ hg
    calc a * y * g = a * m := by rw [e2]; grind
      _ ≤ n * b := h2
      _ = x * b * g := by rw [e1]; grind
  have k2 : x * d ≤ c * y := by
    refine Nat.le_of_mul_le_mul_right ?_ hg
    calc x * d * g = n * d := by rw [e1]; grind
      _ ≤ c * m := h3
      _ = c * y * g := by rw [e2]; grind
  have := (h4 x y hy k1 k2).1
  rcases Nat.lt_or_ge 1 g with h5 | h5
  · have : y * 2 ≤ y * g := Nat.mul_le_mul_left y h5
    omega
  · omega
end Go.Proofs.Ytaojdlcailpheaa

namespace Go.Proofs.Ytaojdlcailpheaa

/-- The chain before its denominator grows past N. -/
def nearL (N : Nat) (c : Ch) : List Nat → Ch
  | [] => c
  | q :: l => if (c.after q).den ≤ N then nearL N (c.after q) l else c
/-- Where the loop stands: a / b by the chain and the rests. -/
structure NI (N a b : Nat) (c : Ch) (A B : Nat) (s : Int) : Prop where
  sgn : s = 1 ∨ s = -1
  num : a = A * c.num + B * c.on
  den : b = A * c.den + B * c.od
  det : (c.num : Int) * c.od - c.den * c.on = s
  dn : c.den ≤ N
  od : c.od ≤ N
  cop : Nat.gcd A B = 1
theorem NI.begun {N a b : Nat} (hN : 1 ≤ N) (h : Nat.gcd a b = 1) : NI N a b Ch.begun a b 1 :=
  ⟨Or.inl rfl, by simp [Ch.begun], by simp [Ch.begun], by simp [Ch.begun], by simp [Ch.begun], hN, h⟩
theorem NI.step {N a b A B : Nat} {c : Ch} {s : Int} (h : NI N a b c A B s) (hn : (c.after (A / B)).den ≤ N) : NI N a b (c.after (A / B)) B (A % B) (-s) := by
  obtain ⟨h1, h2, h3, h4, h5, h6, h7⟩ := h
  have hd := Nat.div_add_mod A B
  refine ⟨by omega, ?_, ?_, ?_, hn, h5, ?_⟩
  · unfold Ch.after
    simp only
    rw [h2]
    conv => lhs; rw [← hd]
    generalize A / B = q
    generalize A % B = r
    grind
  · unfold Ch.after
    simp only
    rw [h3]
    conv => lhs; rw [← hd]
    generalize A / B = q
    generalize A % B = r
    grind
  · unfold Ch.after
    simp only
    push_cast
    generalize ((A / B : Nat) : Int) = q
    rw [← h4]
    grind
  · rw [Nat.gcd_comm, ← Nat.gcd_rec, Nat.gcd_comm]; exact h7
/-- The loop stops before the parts end. -/
theorem near_stop {N a b : Nat} (hb : N < b) (hN : 1 ≤ N) : ∀ (B A : Nat) (c : Ch) (s : Int), 0 < B → NI N a b c A B s →
    ∃ A' B' s', NI N a b (nearL N c (cf A B)) A' B' s' ∧ 0 < B' ∧ N < ((nearL N c (cf A B)).after (A' / B')).den := by
  intro B
  induction B using Nat.strongRecOn with
  | _ B ih =>
    intro A c s hB h
    by_cases hn : (c.after (A / B)).den ≤ N
    · by_cases hr : A % B = 0
      · exfalso
        have h' := h.step hn
        have h7 := h'.cop
        rw [hr, Nat.gcd_zero_right] at h7
        have h3 := h'.den
        rw [hr] at h3
        generalize (c.after (A / B)).den = D at h3 hn
        rw [h7] at h3
        omega
      · rw [cf_more hB hr]
        simp only [nearL, if_pos hn]
        exact ih (A % B) (Nat.mod_lt _ hB) B (c.after (A / B)) (-s) (by omega) (h.step hn)
    · have e : nearL N c (cf A B) = c := by
        by_cases hr : A % B = 0
        · rw [cf_last hB hr]; simp only [nearL, if_neg hn]
        · rw [cf_more hB hr]; simp only [nearL, if_neg hn]
      rw [e]
      exact ⟨A, B, s, h, hB, by omega⟩

/-- How far p / q is from x / b, times b q. -/
def dN (x : Int) (b : Nat) (p : Int) (q : Nat) : Nat := (x * q - b * p).natAbs
/-- n / m is the nearest to x / b, of two as near the lesser one. -/
def Near (x : Int) (b N : Nat) (n : Int) (m : Nat) : Prop :=
  0 < m ∧ m ≤ N ∧ ∀ (p : Int) (q : Nat), 0 < q → q ≤ N → dN x b n m * q ≤ dN x b p q * m ∧ (dN x b n m * q = dN x b p q * m → n * q ≤ p * m)
theorem Near.unique {x : Int} {b N : Nat} {n n' : Int} {m m' : Nat} (h : Near x b N n m) (k : Near x b N n' m') : n * m' = n' * m := by
  obtain ⟨h1, h2, h3⟩ := h
  obtain ⟨k1, k2, k3⟩ := k
  obtain ⟨a1, a2⟩ := h3 n' m' k1 k2
  obtain ⟨b1, b2⟩ := k3 n m h1 h2
  have e : dN x b n m * m' = dN x b n' m' * m := by omega
  have := a2 e
  have := b2 e.symm
  omega
theorem dN_sg {a b : Nat} {e : Int} (he : e = 1 ∨ e = -1) (p : Int) (q : Nat) : dN (e * a) b (e * p) q = dN a b p q := by
  unfold dN
  rcases he with rfl | rfl
  · simp
  · have : (-1 * (a : Int) * q - b * (-1 * p)) = -((a : Int) * q - b * p) := by grind
    rw [this, Int.natAbs_neg]
/-- A fraction that is no worse, turned. -/
def NoW (x : Int) (b : Nat) (n : Int) (m : Nat) (p : Int) (q : Nat) : Prop := dN x b n m * q ≤ dN x b p q * m ∧ (dN x b n m * q = dN x b p q * m → n * q = p * m)
theorem NoW.sg {a b : Nat} {e : Int} (he : e = 1 ∨ e = -1) {n p : Int} {m q : Nat} (h : NoW a b n m p q) : NoW (e * a) b (e * n) m (e * p) q := by
  unfold NoW
  rw [dN_sg he, dN_sg he]
  refine ⟨h.1, fun k => ?_⟩
  have := h.2 k
  rw [Int.mul_assoc, Int.mul_assoc, this]
theorem NoW.of {x : Int} {b D k : Nat} {n p : Int} {m q : Nat} {e : Int} (h1 : dN x b n m = D) (he : e = 1 ∨ e = -1) (h2 : e * (x * q - b * p) * m = D * q + b * k) (h3 : k = 0 → n * q = p * m) (hb : 0 < b) (hm : 0 < m) : NoW x b n m p q := by
  have hw : ((dN x b p q * m : Nat) : Int) = (D * q + b * k : Nat) := by
    have h4 : (e * (x * q - b * p)).natAbs = dN x b p q := by
      unfold dN
      rw [Int.natAbs_mul]
      rcases he with rfl | rfl <;> simp
    have h5 := congrArg Int.natAbs h2
    rw [Int.natAbs_mul, h4, Int.natAbs_natCast] at h5
    rw [h5]
    have : ((D : Int) * q + b * k) = ((D * q + b * k : Nat) : Int) := by push_cast; rfl
    rw [this, Int.natAbs_natCast]
  have hw' : dN x b p q * m = D * q + b * k := by exact_mod_cast hw
  refine ⟨by rw [h1, hw']; exact Nat.le_add_right _ _, fun h => h3 ?_⟩
  rw [h1, hw'] at h
  have : b * k = 0 := by omega
  rcases Nat.mul_eq_zero.1 this with h | h
  · omega
  · exact h
/-- No worse than what is no worse. -/
theorem lex_trans {dn dm dp : Nat} {n m p : Int} {nd md q : Nat} (h1 : 0 < nd) (h2 : 0 < md) (h3 : 0 < q) (ha : dn * md ≤ dm * nd ∧ (dn * md = dm * nd → n * md ≤ m * nd)) (hb : dm * q ≤ dp * md) (hc : dm * q = dp * md → m * q ≤ p * md) :
    dn * q ≤ dp * nd ∧ (dn * q = dp * nd → n * q ≤ p * nd) := by
  have g1 : dn * md * q ≤ dm * nd * q := Nat.mul_le_mul_right q ha.1
  have g2 : dm * q * nd ≤ dp * md * nd := Nat.mul_le_mul_right nd hb
  have e1 : dm * nd * q = dm * q * nd := by grind
  have e2 : dn * md * q = (dn * q) * md := by grind
  have e3 : dp * md * nd = (dp * nd) * md := by grind
  refine ⟨Nat.le_of_mul_le_mul_right (c := md) (by omega) h2, fun e => ?_⟩
  rw [e] at e2
  have k1 : dn * md * q = dm * nd * q := by omega
  have k2 : dm * q * nd = dp * md * nd := by omega
  have k3 := ha.2 (Nat.eq_of_mul_eq_mul_right h3 k1)
  have k4 := hc (Nat.eq_of_mul_eq_mul_right h1 k2)
  have k5 : n * md * q ≤ m * nd * q := Int.mul_le_mul_of_nonneg_right k3 (by omega)
  have k6 : m * q * nd ≤ p * md * nd := Int.mul_le_mul_of_nonneg_right k4 (by omega)
  have e4 : m * nd * q = m * q * nd := by grind
  have e5 : n * md * q = (n * q) * md := by grind
  have e6 : p * md * nd = (p * nd) * md := by grind
  exact Int.le_of_mul_le_mul_right (a := (md : Int)) (by omega) (by omega)
/-- Each fraction with a small denominator is no nearer than one of the two neighbours. -/
theorem near_side {N a b A B : Nat} {c : Ch} {s : Int} (h : NI N a b c A B s) (hB : 0 < B) (hb : 0 < b) (hN : N < (c.after (A / B)).den) :
    0 < c.den ∧ 0 < ((N - c.od) / c.den) * c.den + c.od ∧ ((N - c.od) / c.den) * c.den + c.od ≤ N ∧
    ∀ (p : Int) (q : Nat), 0 < q → q ≤ N → NoW a b ((((N - c.od) / c.den) * c.num + c.on : Nat) : Int) (((N - c.od) / c.den) * c.den + c.od) p q ∨ NoW a b (c.num : Int) c.den p q := by
  obtain ⟨h1, h2, h3, h4, h5, h6, h7⟩ := h
  have hN' : N < A / B * c.den + c.od := hN
  have hden : 0 < c.den := by
    rcases Nat.eq_zero_or_pos c.den with h0 | h0
    · rw [h0, Nat.mul_zero] at hN'; omega
    · exact h0
  have hK1 := Nat.div_add_mod (N - c.od) c.den
  have hK2 := Nat.mod_lt (N - c.od) hden
  obtain ⟨K, hK⟩ : ∃ K, (N - c.od) / c.den = K := ⟨_, rfl⟩
  rw [hK] at hK1 ⊢
  have hKc : K * c.den = c.den * K := Nat.mul_comm _ _
  have hle : K * c.den + c.od ≤ N := by omega
  have hgt : N < K * c.den + c.od + c.den := by omega
  have hKq : K < A / B := by
    have : K * c.den < A / B * c.den := by omega
    exact Nat.lt_of_mul_lt_mul_right this
  have hKB : K * B < A := by
    have h8 : (K + 1) * B ≤ A / B * B := Nat.mul_le_mul_right B hKq
    have h9 : A / B * B ≤ A := Nat.div_mul_le_self A B
    have e : (K + 1) * B = K * B + B := by grind
    omega
  have hy0 : 0 < K * c.den + c.od := by
    rcases Nat.eq_zero_or_pos (K * c.den + c.od) with h0 | h0
    · have e1 : c.od = 0 := by omega
      have e2 : K * c.den = 0 := by omega
      have e3 : N < c.den := by omega
      omega
    · exact h0
  refine ⟨hden, hy0, hle, fun p q hq hqN => ?_⟩
  obtain ⟨C, hC⟩ : ∃ C : Nat, A = K * B + C ∧ 0 < C := ⟨A - K * B, by omega, by omega⟩
  obtain ⟨hC, hC0⟩ := hC
  have f1 : (a : Int) * ((K * c.den + c.od : Nat) : Int) - b * ((K * c.num + c.on : Nat) : Int) = s * C := by
    rw [← h4, h2, h3, hC]
    push_cast
    grind
  have f2 : (a : Int) * c.den - b * c.num = -(s * B) := by
    rw [← h4, h2, h3]
    push_cast
    grind
  have f3 : (c.num : Int) * ((K * c.den + c.od : Nat) : Int) - ((K * c.num + c.on : Nat) : Int) * c.den = s := by
    rw [← h4]
    push_cast
    grind
  obtain ⟨yn, hyn⟩ : ∃ yn : Int, ((K * c.num + c.on : Nat) : Int) = yn := ⟨_, rfl⟩
  obtain ⟨yd, hyd⟩ : ∃ yd : Nat, K * c.den + c.od = yd := ⟨_, rfl⟩
  rw [hyn, hyd] at f1 f3
  rw [hyn, hyd]
  rw [hyd] at hle hgt hy0
  obtain ⟨zn, hzn⟩ : ∃ zn : Int, (c.num : Int) = zn := ⟨_, rfl⟩
  obtain ⟨zd, hzd⟩ : ∃ zd : Nat, c.den = zd := ⟨_, rfl⟩
  rw [hzn, hzd] at f2 f3
  rw [hzn, hzd]
  rw [hzd] at hgt hden
  clear h2 h3 h4 h5 h6 h7 hN hN' hK hK1 hK2 hKc hKq hKB hC hyn hyd hzn hzd
  obtain ⟨u, hu⟩ : ∃ u, s * (p * yd - yn * q) = u := ⟨_, rfl⟩
  obtain ⟨v, hv⟩ : ∃ v, s * (zn * q - p * zd) = v := ⟨_, rfl⟩
  have hs : s * s = 1 := by rcases h1 with rfl | rfl <;> rfl
  have hq2 : (q : Int) = u * zd + v * yd := by
    have e : u * zd + v * yd = s * (q * (zn * yd - yn * zd)) := by rw [← hu, ← hv]; grind
    rw [e, f3]
    have : s * (q * s) = (s * s) * q := by grind
    rw [this, hs]; omega
  by_cases hu0 : u ≤ 0
  · left
    obtain ⟨k, hk⟩ : ∃ k : Nat, u = -(k : Int) := ⟨(-u).toNat, by omega⟩
    refine NoW.of (D := C) (e := s) (k := k) ?_ h1 ?_ ?_ hb hy0
    · unfold dN; rw [f1]
      rcases h1 with rfl | rfl
      · simp
      · rw [Int.neg_mul, Int.natAbs_neg]; simp
    · have e : s * ((a : Int) * q - b * p) * yd = s * ((a : Int) * yd - b * yn) * q + b * (-(s * (p * yd - yn * q))) := by grind
      rw [e, f1, hu, hk]
      have : s * (s * C) = (s * s) * C := by grind
      rw [this, hs]
      grind
    · intro h0
      subst h0
      have h9 : s * (p * yd - yn * q) = 0 := by rw [hu, hk]; rfl
      rcases h1 with rfl | rfl <;> omega
  · right
    have hv0 : v ≤ 0 := by
      rcases Int.lt_or_le 0 v with h0 | h0
      · have g1 : (1 : Int) * zd ≤ u * zd := Int.mul_le_mul_of_nonneg_right (by omega) (by omega)
        have g2 : (1 : Int) * yd ≤ v * yd := Int.mul_le_mul_of_nonneg_right (by omega) (by omega)
        omega
      · exact h0
    obtain ⟨k, hk⟩ : ∃ k : Nat, v = -(k : Int) := ⟨(-v).toNat, by omega⟩
    refine NoW.of (D := B) (e := -s) (k := k) ?_ (by omega) ?_ ?_ hb hden
    · unfold dN; rw [f2]
      rcases h1 with rfl | rfl
      · simp
      · simp
    · have e : -s * ((a : Int) * q - b * p) * zd = -s * ((a : Int) * zd - b * zn) * q + b * (-(s * (zn * q - p * zd))) := by grind
      rw [e, f2, hv, hk]
      have : -s * -(s * (B : Int)) = (s * s) * B := by grind
      rw [this, hs]
      grind
    · intro h0
      subst h0
      have h9 : s * (zn * q - p * zd) = 0 := by rw [hv, hk]; rfl
      rcases h1 with rfl | rfl <;> omega
/-- Of the two neighbours the nearer one, of two as near the lesser one. -/
theorem near_pick {x : Int} {b N : Nat} {yn zn : Int} {yd zd : Nat} (hy : 0 < yd ∧ yd ≤ N) (hz : 0 < zd ∧ zd ≤ N)
    (h : ∀ (p : Int) (q : Nat), 0 < q → q ≤ N → NoW x b yn yd p q ∨ NoW x b zn zd p q) :
    ((dN x b yn yd * zd < dN x b zn zd * yd ∨ dN x b yn yd * zd = dN x b zn zd * yd ∧ yn * zd < zn * yd) → Near x b N yn yd) ∧
    (¬ (dN x b yn yd * zd < dN x b zn zd * yd ∨ dN x b yn yd * zd = dN x b zn zd * yd ∧ yn * zd < zn * yd) → Near x b N zn zd) := by
  constructor
  · intro hc
    refine ⟨hy.1, hy.2, fun p q hq hN => ?_⟩
    rcases h p q hq hN with ⟨h1, h2⟩ | ⟨h1, h2⟩
    · exact ⟨h1, fun e => by rw [h2 e]; exact Int.le_refl _⟩
    · refine lex_trans hy.1 hz.1 hq ?_ h1 (fun e => by rw [h2 e]; exact Int.le_refl _)
      rcases hc with hc | ⟨hc, hc'⟩
      · exact ⟨by omega, fun e => by omega⟩
      · exact ⟨by omega, fun _ => by omega⟩
  · intro hc
    refine ⟨hz.1, hz.2, fun p q hq hN => ?_⟩
    rcases h p q hq hN with ⟨h1, h2⟩ | ⟨h1, h2⟩
    · refine lex_trans hz.1 hy.1 hq ?_ h1 (fun e => by rw [h2 e]; exact Int.le_refl _)
      refine ⟨by omega, fun e => ?_⟩
      have : ¬ (yn * zd < zn * yd) := fun g => hc (Or.inr ⟨by omega, g⟩)
      omega
    · exact ⟨h1, fun e => by rw [h2 e]; exact Int.le_refl _⟩
/-- The two whole numbers of q-ths round x are enough. -/
theorem cand_best {a b : Nat} (hb : 0 < b) (p : Int) (q : Nat) : NoW a b ((a * q / b : Nat) : Int) q p q ∨ NoW a b ((a * q / b + 1 : Nat) : Int) q p q := by
  have h1 := Nat.div_add_mod (a * q) b
  have h2 := Nat.mod_lt (a * q) hb
  obtain ⟨f, hf⟩ : ∃ f, a * q / b = f := ⟨_, rfl⟩
  obtain ⟨r, hr⟩ : ∃ r, a * q % b = r := ⟨_, rfl⟩
  rw [hf, hr] at h1
  rw [hr] at h2
  rw [hf]
  have h3 : (a : Int) * q = b * f + r := by exact_mod_cast h1.symm
  rcases Int.lt_or_le (f : Int) p with hp | hp
  · right
    obtain ⟨k, hk⟩ : ∃ k : Nat, p = f + 1 + k := ⟨(p - f - 1).toNat, by omega⟩
    have e1 : dN a b ((f + 1 : Nat) : Int) q = b - r := by
      unfold dN
      rw [h3]
      have : (b : Int) * f + r - b * ((f + 1 : Nat) : Int) = -((b - r : Nat) : Int) := by
        have : ((b - r : Nat) : Int) = (b : Int) - r := by omega
        rw [this]; push_cast; grind
      rw [this, Int.natAbs_neg, Int.natAbs_natCast]
    have e2 : dN a b p q = b - r + b * k := by
      unfold dN
      rw [h3, hk]
      have : (b : Int) * f + r - b * (f + 1 + k) = -((b - r + b * k : Nat) : Int) := by
        have : ((b - r + b * k : Nat) : Int) = (b : Int) - r + b * k := by push_cast; omega
        rw [this]; grind
      rw [this, Int.natAbs_neg, Int.natAbs_natCast]
    unfold NoW
    rw [e1, e2]
    refine ⟨Nat.mul_le_mul_right q (by omega), fun e => ?_⟩
    rcases Nat.eq_zero_or_pos q with h0 | h0
    · subst h0; simp
    · have := Nat.eq_of_mul_eq_mul_right h0 e
      have : b * k = 0 := by omega
      rcases Nat.mul_eq_zero.1 this with h | h
      · omega
      · subst h; rw [hk]; congr 1; 
  · left
    obtain ⟨k, hk⟩ : ∃ k : Nat, p = f - k := ⟨(f - p).toNat, by omega⟩
    have e1 : dN a b (f : Int) q = r := by
      unfold dN
      rw [h3]
      have : (b : Int) * f + r - b * f = r := by omega
      rw [this, Int.natAbs_natCast]
    have e2 : dN a b p q = r + b * k := by
      unfold dN
      rw [h3, hk]
      have : (b : Int) * f + r - b * (f - k) = ((r + b * k : Nat) : Int) := by push_cast; grind
      rw [this, Int.natAbs_natCast]
    unfold NoW
    rw [e1, e2]
    refine ⟨Nat.mul_le_mul_right q (by omega), fun e => ?_⟩
    rcases Nat.eq_zero_or_pos q with h0 | h0
    · subst h0; simp
    · have := Nat.eq_of_mul_eq_mul_right h0 e
      have : b * k = 0 := by omega
      rcases Nat.mul_eq_zero.1 this with h | h
      · omega
      · subst h; rw [hk]; simp
/-- No farther, and of two as far the lesser one. -/
def LexLe (x : Int) (b : Nat) (n : Int) (m : Nat) (p : Int) (q : Nat) : Prop := dN x b n m * q ≤ dN x b p q * m ∧ (dN x b n m * q = dN x b p q * m → n * q ≤ p * m)
theorem near_of_cands {a b N : Nat} {e : Int} (he : e = 1 ∨ e = -1) (hb : 0 < b) {n : Int} {m : Nat} (hm : 0 < m) (hN : m ≤ N) (h : ∀ q, 0 < q → q ≤ N → LexLe (e * a) b n m (e * ((a * q / b : Nat) : Int)) q ∧ LexLe (e * a) b n m (e * ((a * q / b + 1 : Nat) : Int)) q) : Near (e * a) b N n m := by
  refine ⟨hm, hN, fun p q hq hqN => ?_⟩
  obtain ⟨k1, k2⟩ := h q hq hqN
  have hp : p = e * (e * p) := by
    rw [← Int.mul_assoc]
    rcases he with rfl | rfl <;> simp
  rw [hp]
  rcases cand_best (a := a) hb (e * p) q with hc | hc
  · have g := hc.sg he
    exact lex_trans hm hq hq k1 g.1 (fun e => by rw [g.2 e]; exact Int.le_refl _)
  · have g := hc.sg he
    exact lex_trans hm hq hq k2 g.1 (fun e => by rw [g.2 e]; exact Int.le_refl _)
/-- An exact one with a small denominator. -/
theorem near_exact {x : Int} {b N : Nat} (hb : 0 < b) (hN : b ≤ N) : Near x b N x b := by
  refine ⟨hb, hN, fun p q hq hqN => ?_⟩
  have e : dN x b x b = 0 := by unfold dN; rw [Int.mul_comm, Int.sub_self]; rfl
  rw [e, Nat.zero_mul]
  refine ⟨Nat.zero_le _, fun h => ?_⟩
  have h2 : dN x b p q = 0 := by
    rcases Nat.mul_eq_zero.1 h.symm with h | h
    · exact h
    · omega
  unfold dN at h2
  have : x * q - b * p = 0 := Int.natAbs_eq_zero.1 h2
  rw [Int.mul_comm p b]
  omega
end Go.Proofs.Ytaojdlcailpheaa
