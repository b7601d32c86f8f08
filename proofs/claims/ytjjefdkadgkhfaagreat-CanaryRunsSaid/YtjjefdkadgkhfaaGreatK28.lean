/- Walks of the reference's canary: Allowed.
   Walks of the reference's canary: Run.
   Walks of the reference's canary: Run.
   The walk of CanaryRuns. -/
import Derived.Test.YtjjefdkadgkhfaaGreatK27
import Derived.Test.YtjjefdkadgkhfaaGreatK26
import Derived.Test.YtjjefdkadgkhfaaGreatK23
import Derived.Deep.DeepCutAuto
set_option linter.unusedVariables false
namespace Go.Proofs.YtjjefdkadgkhfaaGreat
open Go.RowKit

set_option maxRecDepth 100000 in
set_option maxHeartbeats 4000000 in
theorem rAllowed_c (w : World) (v : Value) (R : Ro) (h : IsR w v R) (hbig : R.waves.length ≤ 1000000) : Calls Tryz.prog 22 #[v] w (RetL w (allowedF R)) := by
  have HX := h
  obtain ⟨p0, p1, p2, p3, p4, p5, k0, k1, k2, k3, k4, k5, rfl, h0, h1, _, _⟩ := h.open
  obtain ⟨W0, hW, bP, hb0⟩ : ∃ W0, W0 = w.alloc (.cells #[.slice p0 R.hosts.length k0, .slice p1 R.waves.length k1, .bool R.rate.neg, .slice p2 R.rate.num.length k2, .slice p3 R.rate.den.length k3, .bool R.bound.neg, .slice p4 R.bound.num.length k4, .slice p5 R.bound.den.length k5] 28) ∧
      Box W0 w.heap.size #[.slice p0 R.hosts.length k0, .slice p1 R.waves.length k1, .bool R.rate.neg, .slice p2 R.rate.num.length k2, .slice p3 R.rate.den.length k3, .bool R.bound.neg, .slice p4 R.bound.num.length k4, .slice p5 R.bound.den.length k5] 28 ∧ Below w.heap.size w W0 :=
    ⟨_, rfl, Box.new w _ _, held_alloc (Below.refl _ w)⟩
  obtain ⟨c0, c1, c2, c3, c4, c5, c6, c7⟩ := bP.cells8
  have HP := Lib.hid (HX.after hb0)
  have H1 := Lib.hid (h1.after hb0)
  have HB0 := Lib.hid hb0
  have BP := Lib.hid bP
  clear HX h bP hb0 h0 h1
  by_cases hv : ValidR R
  · have HV := Lib.hid hv
    have h16 : R.hosts.length ≤ 16 := hv.2.1
    have hw16 := waves_le hv
    have hfin : Hid (allowedF R = (allowedL R R.waves.length, 0)) := by show _ = _; unfold allowedF; rw [if_pos hv]
    have cz : Hid (((cum R 0 : Nat) : Int) = 0) := by show _ = _; rw [cum_zero]; rfl
    clear hv
    go_enter Tryz.func22, Tryz.ntmps22
    go_upto_region 1 with fail
    rw [← hW]
    clear hW
    go_wp2_with fail
    refine (rcValid_c _ _ R HP.out hbig).mono ?_
    intro e w1 hr
    obtain ⟨rfl, hb1⟩ := hr.yes HV.out
    obtain ⟨c0, c1, c2, c3, c4, c5, c6, c7⟩ := (BP.out.after hb1).cells8
    have HP1 := Lib.hid (HP.out.after hb1)
    have BP1 := Lib.hid (BP.out.after hb1)
    have H11 := Lib.hid (H1.out.after hb1)
    have HB1 := Lib.hid (HB0.out.trans (hb1.mono HB0.out.size))
    clear hr hb1 HP BP HB0 H1
    go_wp2_with fail
    clear c0 c1 c2 c3 c4 c5 c6 c7
    go_loopg [4, 5, 16] R.waves.length (fun g o n i wx => ∃ r : Nat, r ≤ R.waves.length ∧ g = R.waves.length - r ∧ n = .int .i64 ((cum R r : Nat) : Int) ∧ i = .int .i64 (r : Int) ∧ Hid (wx.ownsRow w1.heap.size 3 1 o r ((allowedL R r).map (Value.int .i64))) ∧ Hid (Below w1.heap.size w1 wx))
    case atStart => exact ⟨0, Nat.zero_le _, rfl, by rw [cz.out], rfl, ⟨rfl, .inl ⟨rfl, rfl⟩⟩, Below.refl _ _⟩
    case round =>
      obtain ⟨r, hr, rfl, rfl, rfl, hown, hbl⟩ := hrel
      obtain ⟨po, co, rfl⟩ := ownsRow_shape hown.out
      obtain ⟨wo, rfl⟩ : ∃ wo : World, wo = wr := ⟨_, rfl⟩
      have BP2 := Lib.hid (BP1.out.after hbl.out)
      have HP2 := Lib.hid (HP1.out.after hbl.out)
      have H12 := Lib.hid (H11.out.after hbl.out)
      have HBL := Lib.hid hbl.out
      have HOWN := Lib.hid hown.out
      clear hown hbl
      by_cases hlt : r < R.waves.length
      · obtain ⟨bw, offw, rfl, _, hcw⟩ := H12.out.cells (by omega)
        have hck := hcw r hlt
        obtain ⟨s1, s2, s3⟩ := cum_succ HV.out hlt
        have s4 := cum_le HV.out (r + 1)
        obtain ⟨m1, m2⟩ := goB_mOf HV.out (n := cum R (r + 1)) (by omega)
        have HM := Lib.hid m2
        have hsucc := Lib.hid (allowedL_succ R r)
        obtain ⟨x, hx⟩ : ∃ x, ati R.waves r = x := ⟨_, rfl⟩
        rw [hx] at s3 hck s2
        obtain ⟨M, hMe⟩ : ∃ M, mOf R (cum R (r + 1)) = M := ⟨_, rfl⟩
        rw [hMe] at m1 HM hsucc
        clear hcw s1 hx m2 hMe
        go_wp2_with fail
        go_loopg [8, 9] (cum R (r + 1) + 1) (fun g t j wx => ∃ k : Nat, k ≤ cum R (r + 1) + 1 ∧ g = cum R (r + 1) + 1 - k ∧ j = .int .i64 (k : Int) ∧ t = .int .i64 (((min k M : Nat) : Int) - 1) ∧ Hid (Below wo.heap.size wo wx))
        case atStart => exact ⟨0, Nat.zero_le _, rfl, rfl, by rw [Nat.zero_min]; rfl, Below.refl _ _⟩
        case round =>
          obtain ⟨k, hk, rfl, rfl, rfl, hbj⟩ := hrel
          by_cases hkl : k < cum R (r + 1) + 1
          · obtain ⟨b0, b1, b2, b3, b4, b5, b6, b7⟩ := (BP2.out.after hbj.out).cells8
            have HP3 := Lib.hid (HP2.out.after hbj.out)
            have hkn : (k : Int) ≤ ((cum R (r + 1) : Nat) : Int) := by omega
            go_wp2_with fail
            refine (goesOn_c _ _ R (cum R (r + 1)) k HP3.out HV.out (by omega) (by omega)).mono ?_
            intro e w5 hg
            by_cases hgo : GoB R (cum R (r + 1)) k
            · obtain ⟨rfl, hb5⟩ := hg.yes hgo
              have hkM := (HM.out k).1 hgo
              have HB5 := Lib.hid (hbj.out.trans (hb5.mono hbj.out.size))
              have HS : Hid ((((min (k + 1) M : Nat) : Int) - 1) = (k : Int)) := by show _ = _; omega
              clear hg hb5 hgo hbj b0 b1 b2 b3 b4 b5 b6 b7
              go_wp2_with fail
              go_roundg (cum R (r + 1) + 1 - (k + 1))
              case measure => omega
              case rel => exact ⟨k + 1, by omega, rfl, by go_num, by rw [HS.out], HB5.out⟩
            · obtain ⟨rfl, hb5⟩ := hg.no hgo
              have hkM : M ≤ k := Nat.le_of_not_lt (fun h => hgo ((HM.out k).2 h))
              have HB5 := Lib.hid (hbj.out.trans (hb5.mono hbj.out.size))
              have HS : Hid (min (k + 1) M = M) := by show _ = _; omega
              clear hg hb5 hgo hbj b0 b1 b2 b3 b4 b5 b6 b7
              go_wp2_with fail
              go_roundg (cum R (r + 1) + 1 - (k + 1))
              case measure => omega
              case rel => exact ⟨k + 1, by omega, rfl, by go_num, by rw [HS.out], HB5.out⟩
          · obtain rfl : k = cum R (r + 1) + 1 := by omega
            have HS : Hid (min (cum R (r + 1) + 1) M = M) := by show _ = _; omega
            rw [HS.out]
            have hown3 := ownsRow_after HOWN.out hbj.out
            have HOWN3 := Lib.hid hown3
            have HB3 := Lib.hid (HBL.out.trans (hbj.out.mono HBL.out.size))
            have hs3 := HB3.out.size
            obtain ⟨i0, hi, hz0, hz1, hz2⟩ := info_parts infoInt
            have hlm : maxLen = 9223372036854775807 := rfl
            have HLM := Lib.hid hlm
            clear hown3 hlm hbj
            go_wp2_with (at_builtin; refine wpList_append_own _ rfl _ _ 22 rfl w1.heap.size 3 i0 (.int .i64 0) 1 8 Tryz.underlying22 hi hz0 hz1 hz2 rfl (by decide) _ _ _ rfl (HOWN3.out.alloc _) ⟨_, 0, none⟩ 1 1 [.int .i64 ((M : Int) - 1)] rfl rfl cell_one (by intro u hu; simp at hu; subst hu; rfl) (by rw [HLM.out]; omega) (by omega) (by simp; omega) ?_)
            intro v' w5 hown' hgrow _
            have HOWN5 : Hid (w5.ownsRow w1.heap.size 3 1 v' (r + 1) ((allowedL R (r + 1)).map (Value.int .i64))) := by
              show World.ownsRow _ _ _ _ _ _ _
              rw [hsucc.out, List.map_append]; exact hown'
            have HB5 := Lib.hid ((HB3.out.alloc hs3 (.cells #[.int .i64 ((M : Int) - 1)] 3)).grown hgrow (by simp; omega) (fun g e => (ownsRow_ge (HOWN3.out.alloc (.cells #[.int .i64 ((M : Int) - 1)] 3)) g e).1))
            clear hown' hgrow
            go_wp2_with fail
            go_roundg (R.waves.length - (r + 1))
            case measure => omega
            case rel => exact ⟨r + 1, by omega, rfl, rfl, by go_num, HOWN5.out, HB5.out⟩
      · obtain rfl : r = R.waves.length := by omega
        have hres : SlI wo (.slice po R.waves.length co) (allowedL R R.waves.length) := ⟨allowed_in HV.out _, (SlV.of_own HOWN.out).1⟩
        have HRES := Lib.hid hres
        have HBW := Lib.hid (HB1.out.trans (HBL.out.mono HB1.out.size))
        clear hres
        go_wp2_with fail
        go_ret2
        rw [hfin.out]
        exact ⟨_, rfl, HRES.out, HBW.out⟩
  · have hfin : Hid (allowedF R = ([], 1)) := by show _ = _; unfold allowedF; rw [if_neg hv]
    have HV := Lib.hid hv
    clear hv
    go_enter Tryz.func22, Tryz.ntmps22
    go_upto_region 1 with fail
    rw [← hW]
    clear hW
    go_wp2_with fail
    refine (rcValid_c _ _ R HP.out hbig).mono ?_
    intro e w1 hr
    obtain ⟨rfl, hb1⟩ := hr.no HV.out
    have HB1 := Lib.hid (HB0.out.trans (hb1.mono HB0.out.size))
    clear hr hb1 c0 c1 c2 c3 c4 c5 c6 c7
    go_wp2_with fail
    go_ret2
    rw [hfin.out]
    exact ⟨_, rfl, SlI.nil _, HB1.out⟩
end Go.Proofs.YtjjefdkadgkhfaaGreat

namespace Go.Proofs.YtjjefdkadgkhfaaGreat
open Go.RowKit

theorem failsN_take {l : List Bool} {n m : Nat} (h : n ≤ m) : failsN (l.take m) n = failsN l n := by
  unfold failsN; rw [List.take_take, Nat.min_eq_left h]
theorem cum_lt {R : Ro} (h : ValidR R) {i j : Nat} (hij : i < j) (hj : j ≤ R.waves.length) : cum R i < cum R j := by
  induction j with
  | zero => omega
  | succ j ih =>
    obtain ⟨e1, e2, _⟩ := cum_succ h (show j < R.waves.length by omega)
    rcases Nat.lt_or_eq_of_le (Nat.le_of_lt_succ hij) with h1 | h1
    · have := ih h1 (by omega); omega
    · subst h1; omega
theorem cum_mono {R : Ro} (h : ValidR R) {i j : Nat} (hij : i ≤ j) (hj : j ≤ R.waves.length) : cum R i ≤ cum R j := by
  rcases Nat.lt_or_eq_of_le hij with h1 | h1
  · exact Nat.le_of_lt (cum_lt h h1 hj)
  · rw [h1]; exact Nat.le_refl _
open Classical in
/-- What Next decides of the results of the first r waves, where it went on at all boundaries before. -/
theorem next_take {R : Ro} {fails : List Bool} (hv : ValidR R) (hl : fails.length = R.hosts.length) {r : Nat} (hr : r ≤ R.waves.length) (hg : ∀ j, 0 < j → j < r → GoB R (cum R j) (failsN fails (cum R j))) :
    nextF R (fails.take (cum R r)) = if r = 0 ∨ GoB R (cum R r) (failsN fails (cum R r)) then (if r = R.waves.length then (⟨3, []⟩, 0) else (⟨1, hostsOf R (cum R r) (cum R (r + 1))⟩, 0)) else (⟨2, []⟩, 0) := by
  have hlen : (fails.take (cum R r)).length = cum R r := by
    rw [List.length_take]; have := cum_le hv r; omega
  unfold nextF
  rw [if_pos hv, if_neg (by rw [hlen]; have := cum_le hv r; omega)]
  have hat : ∀ k, R.waves.length - r = k → nextW R (fails.take (cum R r)) r k = if r = R.waves.length then (⟨3, []⟩, 0) else (⟨1, hostsOf R (cum R r) (cum R (r + 1))⟩, 0) := by
    intro k hk
    cases k with
    | zero => rw [nextW_end, if_pos (by omega)]
    | succ k => rw [nextW_wave hlen, if_neg (by omega)]
  have step : ∀ j, j < r → nextW R (fails.take (cum R r)) 0 R.waves.length = nextW R (fails.take (cum R r)) j (R.waves.length - j) := by
    intro j
    induction j with
    | zero => intro _; rfl
    | succ j ih =>
      intro hj
      rw [ih (by omega)]
      obtain ⟨k, hk⟩ : ∃ k, R.waves.length - j = k + 1 := ⟨R.waves.length - j - 1, by omega⟩
      rw [hk, nextW_go (by rw [hlen]; have := cum_lt hv (i := j) (j := r) (by omega) hr; omega) (by rw [hlen]; have := cum_mono hv (i := j + 1) (j := r) (by omega) hr; omega)
        (by rw [failsN_take (cum_mono hv (by omega) hr)]; exact hg _ (by omega) hj), show R.waves.length - (j + 1) = k by omega]
  rcases Nat.eq_zero_or_pos r with h0 | h0
  · subst h0
    rw [if_pos (.inl rfl)]
    exact hat _ rfl
  · rw [step (r - 1) (by omega)]
    obtain ⟨k, hk⟩ : ∃ k, R.waves.length - (r - 1) = k + 1 := ⟨R.waves.length - r, by omega⟩
    have hr1 : r - 1 + 1 = r := by omega
    rw [hk]
    have a1 : (fails.take (cum R r)).length ≠ cum R (r - 1) := by rw [hlen]; have := cum_lt hv (i := r - 1) (j := r) (by omega) hr; omega
    have a2 : ¬ (fails.take (cum R r)).length < cum R (r - 1 + 1) := by rw [hlen, hr1]; omega
    by_cases hgo : GoB R (cum R r) (failsN fails (cum R r))
    · rw [nextW_go a1 a2 (by rw [hr1, failsN_take (Nat.le_refl _)]; exact hgo), hr1, if_pos (.inr hgo)]
      exact hat _ (by omega)
    · rw [nextW_stop a1 a2 (by rw [hr1, failsN_take (Nat.le_refl _)]; exact hgo) (by rw [hlen, hr1]; omega), if_neg (by rintro (h | h); omega; exact hgo h)]
open Classical in
/-- What is still to be decided behind r waves, the boundary there not yet looked at. -/
noncomputable def restD (R : Ro) (fails : List Bool) (r : Nat) : List Dec := if r = 0 ∨ GoB R (cum R r) (failsN fails (cum R r)) then runD R fails r (R.waves.length - r) else [⟨2, []⟩]
theorem restD_zero (R : Ro) (fails : List Bool) : restD R fails 0 = runD R fails 0 R.waves.length := by unfold restD; rw [if_pos (.inl rfl)]; rfl
theorem restD_wave {R : Ro} {fails : List Bool} {r : Nat} (hr : r < R.waves.length) (h : r = 0 ∨ GoB R (cum R r) (failsN fails (cum R r))) : wavesD R r ++ restD R fails r = wavesD R (r + 1) ++ restD R fails (r + 1) := by
  obtain ⟨k, hk⟩ : ∃ k, R.waves.length - r = k + 1 := ⟨R.waves.length - r - 1, by omega⟩
  have hk2 : R.waves.length - (r + 1) = k := by omega
  rw [wavesD_succ, List.append_assoc]
  congr 1
  have e1 : restD R fails r = runD R fails r (k + 1) := by unfold restD; rw [if_pos h, hk]
  rw [e1, runD]
  show _ :: _ = _ :: _
  congr 1
  unfold restD
  by_cases hg : GoB R (cum R (r + 1)) (failsN fails (cum R (r + 1)))
  · rw [if_pos hg, if_pos (.inr hg), hk2]; rfl
  · rw [if_neg hg, if_neg (by rintro (h | h); omega; exact hg h)]; rfl
theorem restD_done {R : Ro} {fails : List Bool} (h : R.waves.length = 0 ∨ GoB R (cum R R.waves.length) (failsN fails (cum R R.waves.length))) : restD R fails R.waves.length = [⟨3, []⟩] := by
  unfold restD; rw [if_pos h, Nat.sub_self]; rfl
theorem restD_stop {R : Ro} {fails : List Bool} {r : Nat} (h : ¬ (r = 0 ∨ GoB R (cum R r) (failsN fails (cum R r)))) : restD R fails r = [⟨2, []⟩] := by
  unfold restD; rw [if_neg h]
end Go.Proofs.YtjjefdkadgkhfaaGreat

namespace Go.Proofs.YtjjefdkadgkhfaaGreat
open Go.RowKit

/-- Stores into a decision's variable leave rows of ints. -/
theorem SlT.grownSet2 {w : World} {v : Value} {l : List Int} {B : Nat} {x y : Value} (h : SlT w v l) {x0 x1 : Value} (hb : Box w B #[x0, x1] 33) : SlT ((w.setCell ⟨B, 0, none⟩ x).setCell ⟨B, 1, none⟩ y) v l := by
  have b1 : Box (w.setCell ⟨B, 0, none⟩ x) B #[x, x1] 33 := by simpa using hb.set 0 x
  exact (h.grown (grown_set w B 0 x) (hb.noInt (by decide))).grown (grown_set _ B 1 y) (b1.noInt (by decide))
theorem Box.set2 {w : World} {B : Nat} {x0 x1 : Value} {t : TypeId} (hb : Box w B #[x0, x1] t) (a b : Value) : Box ((w.setCell ⟨B, 0, none⟩ a).setCell ⟨B, 1, none⟩ b) B #[a, b] t := by
  have := (hb.set 0 a).set 1 b
  simpa using this
theorem SlB.drewFront {w : World} {p : Option Addr} {n c : Nat} {bs : List Bool} (h : SlB w (.slice p n c) bs) (m : Nat) (hm : m ≤ n) : SlB w (.slice p m c) (bs.take m) := h.front m hm

set_option maxRecDepth 100000 in
set_option maxHeartbeats 8000000 in
theorem rRun_c (w : World) (v u : Value) (R : Ro) (fails : List Bool) (h : IsR w v R) (k : SlB w u fails) (hbig : R.waves.length ≤ 1000000) : Calls Tryz.prog 20 #[v, u] w (RetDs w (runF R fails)) := by
  have HX := h
  have HY := k
  obtain ⟨p0, p1, p2, p3, p4, p5, k0, k1, k2, k3, k4, k5, rfl, h0, h1, _, _⟩ := h.open
  obtain ⟨p, c, rfl, hc1, hc2, _⟩ := k.shape
  obtain ⟨W0, hW, bP, hb0⟩ : ∃ W0, W0 = w.alloc (.cells #[.slice p0 R.hosts.length k0, .slice p1 R.waves.length k1, .bool R.rate.neg, .slice p2 R.rate.num.length k2, .slice p3 R.rate.den.length k3, .bool R.bound.neg, .slice p4 R.bound.num.length k4, .slice p5 R.bound.den.length k5] 28) ∧
      Box W0 w.heap.size #[.slice p0 R.hosts.length k0, .slice p1 R.waves.length k1, .bool R.rate.neg, .slice p2 R.rate.num.length k2, .slice p3 R.rate.den.length k3, .bool R.bound.neg, .slice p4 R.bound.num.length k4, .slice p5 R.bound.den.length k5] 28 ∧ Below w.heap.size w W0 :=
    ⟨_, rfl, Box.new w _ _, held_alloc (Below.refl _ w)⟩
  obtain ⟨c0, c1, c2, c3, c4, c5, c6, c7⟩ := bP.cells8
  have HP := Lib.hid (HX.after hb0)
  have HF := Lib.hid (HY.after hb0)
  have HB0 := Lib.hid hb0
  have BP := Lib.hid bP
  obtain ⟨_, ch, eh, mh1, mh2, _⟩ := h0.shape
  have hhl : R.hosts.length ≤ 9223372036854775807 := by omega
  clear HX HY h k bP hb0 h0 h1 eh mh1 mh2
  by_cases hv : ValidR R
  · have HV := Lib.hid hv
    clear hv
    go_enter Tryz.func20, Tryz.ntmps20
    go_upto_region 1 with fail
    rw [← hW]
    clear hW
    go_wp2_with fail
    refine (rcValid_c _ _ R HP.out hbig).mono ?_
    intro e w1 hr
    obtain ⟨rfl, hb1⟩ := hr.yes HV.out
    obtain ⟨c0, c1, c2, c3, c4, c5, c6, c7⟩ := (BP.out.after hb1).cells8
    have HP1 := Lib.hid (HP.out.after hb1)
    have HF1 := Lib.hid (HF.out.after hb1)
    have BP1 := Lib.hid (BP.out.after hb1)
    have HB1 := Lib.hid (HB0.out.trans (hb1.mono HB0.out.size))
    clear hr hb1 HP HF BP HB0
    by_cases hl : fails.length = R.hosts.length
    · have h16 : R.hosts.length ≤ 16 := HV.out.2.1
      have hw16 := waves_le HV.out
      have hlen : fails.length ≤ R.hosts.length := Nat.le_of_eq hl
      have hlen' : R.hosts.length ≤ fails.length := Nat.le_of_eq hl.symm
      have HL := Lib.hid hl
      have hfin : Hid (runF R fails = (runD R fails 0 R.waves.length, 0)) := by show _ = _; unfold runF; rw [if_pos HV.out, if_pos hl]
      have hbl : ((fails.length : Int) != (R.hosts.length : Int)) = false := by rw [bne_eq_false_iff_eq]; omega
      have cz : Hid (((cum R 0 : Nat) : Int) = 0) := by show _ = _; rw [cum_zero]; rfl
      have rz : Hid (runD R fails 0 R.waves.length = wavesD R 0 ++ restD R fails 0) := by show _ = _; rw [restD_zero]; rfl
      clear hl
      go_wp2_with fail
      clear c0 c1 c2 c3 c4 c5 c6 c7
      go_loopg [6, 7] (R.waves.length + 1) (fun g o n wx => ∃ (r : Nat) (es : List (Nat × Value)), r ≤ R.waves.length ∧ g = R.waves.length + 1 - r ∧ n = .int .i64 ((cum R r : Nat) : Int) ∧ Hid (wx.ownsRow w1.heap.size 33 2 o r (cellsD es)) ∧ Hid (EntsD wx es (wavesD R r)) ∧ Hid (Below w1.heap.size w1 wx) ∧
        Hid (∀ j, 0 < j → j < r → GoB R (cum R j) (failsN fails (cum R j))) ∧ Hid (runD R fails 0 R.waves.length = wavesD R r ++ restD R fails r))
      case atStart => exact ⟨0, [], Nat.zero_le _, rfl, by rw [cz.out], ⟨rfl, .inl ⟨rfl, rfl⟩⟩, EntsD.nil _, Below.refl _ _, (fun j h1 h2 => by omega), rz.out⟩
      case round =>
        obtain ⟨r, es, hr, rfl, rfl, hown, hes, hbl2, hgj, hrun⟩ := hrel
        obtain ⟨po, co, rfl⟩ := ownsRow_shape hown.out
        obtain ⟨wo, rfl⟩ : ∃ wo : World, wo = wr := ⟨_, rfl⟩
        have BP2 := Lib.hid (BP1.out.after hbl2.out)
        have HP2 := Lib.hid (HP1.out.after hbl2.out)
        have HF2 := Lib.hid (HF1.out.after hbl2.out)
        have HBL := Lib.hid hbl2.out
        have hcr := cum_le HV.out r
        have hcc : ((cum R r : Nat) : Int) ≤ (c : Int) := by omega
        have hcn : (0 : Int) ≤ ((cum R r : Nat) : Int) := Int.natCast_nonneg _
        have HNX := Lib.hid (next_take HV.out HL.out hr hgj.out)
        have HFT := Lib.hid (HF2.out.front (cum R r) (by omega))
        have mkS : Hid (∀ w', Below wo.heap.size wo w' → w'.cell? ⟨w.heap.size, 0, none⟩ = some (.slice p0 R.hosts.length k0) ∧ w'.cell? ⟨w.heap.size, 1, none⟩ = some (.slice p1 R.waves.length k1) ∧ w'.cell? ⟨w.heap.size, 2, none⟩ = some (.bool R.rate.neg) ∧ w'.cell? ⟨w.heap.size, 3, none⟩ = some (.slice p2 R.rate.num.length k2) ∧ w'.cell? ⟨w.heap.size, 4, none⟩ = some (.slice p3 R.rate.den.length k3) ∧ w'.cell? ⟨w.heap.size, 5, none⟩ = some (.bool R.bound.neg) ∧ w'.cell? ⟨w.heap.size, 6, none⟩ = some (.slice p4 R.bound.num.length k4) ∧ w'.cell? ⟨w.heap.size, 7, none⟩ = some (.slice p5 R.bound.den.length k5)) := fun w' hb => (BP2.out.after hb).cells8
        obtain ⟨D, hD⟩ : ∃ D, (nextF R (fails.take (cum R r))).1 = D := ⟨_, rfl⟩
        have HD := Lib.hid hD
        have HGJ : Hid (∀ j, 0 < j → j < r → GoB R (cum R j) (failsN fails (cum R j))) := hgj.out
        have HRUN := Lib.hid hrun.out
        have HOWN := Lib.hid hown.out
        have HES := Lib.hid hes.out
        clear hbl2 hgj hD hrun hown hes
        go_upto_region 7 with fail
        go_cut [8] (fun b wx => ∃ (bq : Nat) (vd : Value), b = .pointer (some ⟨bq, 0, none⟩) ∧ wo.heap.size ≤ bq ∧ Hid (Box wx bq #[.int .u8 (D.kind : Int), vd] 33) ∧ Hid (SlT wx vd D.hosts) ∧ Hid (Below wo.heap.size wo wx))
        case first =>
          go_region_held3 (fun w' => w'.cell? ⟨w.heap.size, 0, none⟩ = some (.slice p0 R.hosts.length k0) ∧ w'.cell? ⟨w.heap.size, 1, none⟩ = some (.slice p1 R.waves.length k1) ∧ w'.cell? ⟨w.heap.size, 2, none⟩ = some (.bool R.rate.neg) ∧ w'.cell? ⟨w.heap.size, 3, none⟩ = some (.slice p2 R.rate.num.length k2) ∧ w'.cell? ⟨w.heap.size, 4, none⟩ = some (.slice p3 R.rate.den.length k3) ∧ w'.cell? ⟨w.heap.size, 5, none⟩ = some (.bool R.bound.neg) ∧ w'.cell? ⟨w.heap.size, 6, none⟩ = some (.slice p4 R.bound.num.length k4) ∧ w'.cell? ⟨w.heap.size, 7, none⟩ = some (.slice p5 R.bound.den.length k5))
            (first | (refine mkS.out _ ?_; (repeat (first | with_reducible exact hk5 | with_reducible exact Below.refl _ _ | with_reducible refine below_dr ?_ | with_reducible refine held_alloc ?_ | ((with_reducible refine held_set ?_ ?_); rotate_left; with_reducible exact hle))); done))
            (first
             | (go_at_call 9; refine (rNext_c _ _ _ R (fails.take (cum R r)) ?_ ?_ hbig).mono ?_; exact HP2.out.after (below_dr (Below.refl _ wo)); exact HFT.out.after (below_dr (Below.refl _ wo)); rintro e w5 ⟨vd, rfl, hvd, hb5⟩; have hk5 := below_of_drew hb5; rw [HD.out] at hvd ⊢; obtain ⟨ad, cd, rfl⟩ := hvd.shape)
             | (go_at_call 9; refine (rNext_c _ _ _ R (fails.take (cum R r)) ?_ ?_ hbig).mono ?_; exact (HP2.out.after (below_dr (Below.refl _ wo))).after (held_alloc (Below.refl _ _)); exact SlB.after (HFT.out.after (below_dr (Below.refl _ wo))) (held_alloc (Below.refl _ _)); rintro e w5 ⟨vd, rfl, hvd, hb5⟩; have CZ : Box w5 wo.heap.size #[.int .u8 0, .slice none 0 0] 33 := (after_new (below_of_drew hb5)).2; have hk5 : Below wo.heap.size wo w5 := (after_new (below_of_drew hb5)).1; have hle : wo.heap.size ≤ wo.heap.size := Nat.le_refl _; have z0 : w5.cell? ⟨wo.heap.size, 0, none⟩ = some (.int .u8 0) := CZ.cell 0; have z1 : w5.cell? ⟨wo.heap.size, 1, none⟩ = some (.slice none 0 0) := CZ.cell 1; have f0 := CZ.frozen 0; have f1 := CZ.frozen 1; rw [HD.out] at hvd ⊢; obtain ⟨ad, cd, rfl⟩ := hvd.shape)
             | (fail))
          all_goals
            (have HVD := Lib.hid hvd
             have HK5 := Lib.hid hk5
             clear hvd mkS
             go_wp2_with fail
             go_meet
             case rel =>
               first
               | (exact ⟨wo.heap.size, .slice ad D.hosts.length cd, rfl, Nat.le_refl _, Lib.hid (Box.set2 CZ _ _), Lib.hid (HVD.out.grownSet2 CZ), Lib.hid (held_set (p := ⟨wo.heap.size, 1, none⟩) (held_set (p := ⟨wo.heap.size, 0, none⟩) HK5.out (Nat.le_refl _)) (Nat.le_refl _))⟩)
               | (exact ⟨w5.heap.size, .slice ad D.hosts.length cd, rfl, HK5.out.size, Lib.hid (Box.new _ _ _), Lib.hid (SlT.after HVD.out (held_alloc (Below.refl _ _))), Lib.hid (held_alloc HK5.out)⟩))
        case rest =>
          obtain ⟨bq, vd, rfl, hqo, hbq, hvd, hbc⟩ := hcut
          obtain ⟨ad, cd, rfl⟩ := hvd.out.shape
          have hown2 := ownsRow_after HOWN.out hbc.out
          have HOWN2 := Lib.hid hown2
          have HES2 := Lib.hid (HES.out.after hbc.out)
          have HBL2 := Lib.hid (HBL.out.trans (hbc.out.mono HBL.out.size))
          have hs2 := HBL2.out.size
          have q0 : wc.cell? ⟨bq, 0, none⟩ = some (.int .u8 (D.kind : Int)) := hbq.out.cell 0
          have q1 : wc.cell? ⟨bq, 1, none⟩ = some (.slice ad D.hosts.length cd) := hbq.out.cell 1
          have hlq := hbq.out.lt
          have hgo : ∀ g, (Value.slice po r co).ownBlock = some g → g < wo.heap.size := fun g e => by
            rcases HOWN.out.2 with ⟨h0, _⟩ | ⟨g', cap, cur, h0, _, hg, _⟩
            · rw [h0] at e; cases e
            · rw [h0] at e
              obtain rfl : g' = g := by simpa [Value.ownBlock] using e
              exact (Array.getElem?_eq_some_iff.1 hg).1
          have HGO := Lib.hid hgo
          obtain ⟨i0, hi, hz0, hz1, hz2⟩ := info_parts infoD
          have hlm : maxLen = 9223372036854775807 := rfl
          have HLM := Lib.hid hlm
          have HBQ := Lib.hid hbq.out
          have HVD := Lib.hid hvd.out
          clear hown2 hlm hgo hbc hbq hvd mkS
          go_wp2_with (at_builtin; refine wpList_append_own _ rfl _ _ 48 rfl w1.heap.size 33 i0 (.agg #[.int .u8 0, .slice none 0 0]) 2 32 Tryz.underlying48 hi hz0 hz1 hz2 rfl (by decide) _ _ _ rfl (HOWN2.out.alloc _) ⟨wc.heap.size, 0, none⟩ 1 1 [.int .u8 (D.kind : Int), .slice ad D.hosts.length cd] rfl rfl cell_two (by intro u hu; simp at hu; rcases hu with rfl | rfl <;> rfl) (by rw [HLM.out]; omega) (by omega) (by simp; omega) ?_)
          intro v5 w5 hown5 hgr5 _
          have hal := HOWN2.out.alloc (.cells #[.int .u8 (D.kind : Int), .slice ad D.hosts.length cd] 33)
          have hge := ownsRow_ge hal
          have hni := ownsRow_noInt hal (by decide)
          have hba := held_alloc (o := .cells #[.int .u8 (D.kind : Int), .slice ad D.hosts.length cd] 33) (Below.refl wc.heap.size wc)
          have es5 : EntsD w5 (es ++ [(D.kind, .slice ad D.hosts.length cd)]) (wavesD R r ++ [D]) := ((HES2.out.after hba).grown hgr5 hni).snoc ((HVD.out.after hba).grown hgr5 hni)
          have bl5 : Below w1.heap.size w1 w5 := ((HBL2.out.trans (hba.mono HBL2.out.size))).grown hgr5 (by simp; omega) (fun g e => (hge g e).1)
          have bq5 := (HBQ.out.alloc (.cells #[.int .u8 (D.kind : Int), .slice ad D.hosts.length cd] 33)).grown' hgr5 (by intro e; have := HGO.out _ e.symm; omega)
          have own5 : w5.ownsRow w1.heap.size 33 2 v5 (r + 1) (cellsD (es ++ [(D.kind, .slice ad D.hosts.length cd)])) := by rw [cellsD_snoc]; exact hown5
          obtain ⟨p5', c5', rfl⟩ := ownsRow_shape hown5
          have q2 : w5.cell? ⟨bq, 0, none⟩ = some (.int .u8 (D.kind : Int)) := bq5.cell 0
          have q3 : w5.cell? ⟨bq, 1, none⟩ = some (.slice ad D.hosts.length cd) := bq5.cell 1
          have ES5 := Lib.hid es5
          have BL5 := Lib.hid bl5
          have OWN5 := Lib.hid own5
          have HBW := Lib.hid (HB1.out.trans (bl5.mono HB1.out.size))
          clear hown5 hgr5 hal hge hni hba es5 bl5 bq5 own5 q0 q1
          by_cases hp : r = 0 ∨ GoB R (cum R r) (failsN fails (cum R r))
          · by_cases hrN : r = R.waves.length
            · have hDv : D = ⟨3, []⟩ := by rw [← HD.out, HNX.out, if_pos hp, if_pos hrN]
              have hX : Hid (runF R fails = (wavesD R r ++ [⟨3, []⟩], 0)) := by
                show _ = _
                rw [hfin.out, HRUN.out]
                subst hrN
                rw [restD_done hp]
              clear HD HNX hp hrN
              subst hDv
              have HRES := Lib.hid (SlD.of_own OWN5.out ES5.out)
              go_wp2_with fail
              go_ret2
              rw [hX.out]
              exact ⟨_, rfl, HRES.out, HBW.out⟩
            · have hrl : r < R.waves.length := by omega
              have hDv : D = ⟨1, hostsOf R (cum R r) (cum R (r + 1))⟩ := by rw [← HD.out, HNX.out, if_pos hp, if_neg hrN]
              have hRU : Hid (runD R fails 0 R.waves.length = wavesD R (r + 1) ++ restD R fails (r + 1)) := by show _ = _; rw [HRUN.out, restD_wave hrl hp]
              have hGJ : Hid (∀ j, 0 < j → j < r + 1 → GoB R (cum R j) (failsN fails (cum R j))) := fun j h1 h2 => by
                rcases Nat.lt_or_eq_of_le (Nat.le_of_lt_succ h2) with h3 | h3
                · exact HGJ.out j h1 h3
                · subst h3; exact hp.resolve_left (by omega)
              obtain ⟨s1, s2, s3⟩ := cum_succ HV.out hrl
              have s4 := cum_le HV.out (r + 1)
              have hL := hostsOf_len HV.out hrl
              have hsum : Hid (((cum R r : Nat) : Int) + (((hostsOf R (cum R r) (cum R (r + 1))).length : Nat) : Int) = ((cum R (r + 1) : Nat) : Int)) := by show _ = _; rw [hL]; omega
              have hL2 : (hostsOf R (cum R r) (cum R (r + 1))).length ≤ 16 := by omega
              have hE : Hid (EntsD w5 (es ++ [(1, .slice ad (hostsOf R (cum R r) (cum R (r + 1))).length cd)]) (wavesD R (r + 1))) := by
                have := ES5.out
                rw [hDv] at this
                show EntsD _ _ _
                rw [wavesD_succ]; exact this
              clear HD HNX hp hrN s1 s2 s3 hL ES5
              subst hDv
              go_wp2_with fail
              go_roundg (R.waves.length + 1 - (r + 1))
              case measure => omega
              case rel => exact ⟨r + 1, _, by omega, rfl, by rw [← hsum.out], OWN5.out, hE.out, BL5.out, hGJ.out, hRU.out⟩
          · have hDv : D = ⟨2, []⟩ := by rw [← HD.out, HNX.out, if_neg hp]
            have hX : Hid (runF R fails = (wavesD R r ++ [⟨2, []⟩], 0)) := by show _ = _; rw [hfin.out, HRUN.out, restD_stop hp]
            clear HD HNX hp
            subst hDv
            have HRES := Lib.hid (SlD.of_own OWN5.out ES5.out)
            go_wp2_with fail
            go_ret2
            rw [hX.out]
            exact ⟨_, rfl, HRES.out, HBW.out⟩
    · have hfin : Hid (runF R fails = ([], 2)) := by show _ = _; unfold runF; rw [if_pos HV.out, if_neg hl]
      have hbl : ((fails.length : Int) != (R.hosts.length : Int)) = true := by rw [bne_iff_ne]; omega
      go_wp2_with fail
      go_ret2
      rw [hfin.out]
      exact ⟨_, rfl, SlD.nil _, HB1.out⟩
  · have hfin : Hid (runF R fails = ([], 1)) := by show _ = _; unfold runF; rw [if_neg hv]
    have HV := Lib.hid hv
    clear hv
    go_enter Tryz.func20, Tryz.ntmps20
    go_upto_region 1 with fail
    rw [← hW]
    clear hW
    go_wp2_with fail
    refine (rcValid_c _ _ R HP.out hbig).mono ?_
    intro e w1 hr
    obtain ⟨rfl, hb1⟩ := hr.no HV.out
    have HB1 := Lib.hid (HB0.out.trans (hb1.mono HB0.out.size))
    clear hr hb1 c0 c1 c2 c3 c4 c5 c6 c7
    go_wp2_with fail
    go_ret2
    rw [hfin.out]
    exact ⟨_, rfl, SlD.nil _, HB1.out⟩
end Go.Proofs.YtjjefdkadgkhfaaGreat

namespace Go.Proofs.YtjjefdkadgkhfaaGreat
open Go.RowKit Go.Shelf

set_option maxRecDepth 100000 in
set_option maxHeartbeats 8000000 in
theorem canaryRuns_c (w : World) (v u : Value) (R : Ro) (bs : List Bool) (h : IsRA w v R) (k : SlB w u bs) : Calls Tryz.prog 5 #[v, u] w fun e w' => e = .returned (.bool true) ∧ Below w.heap.size w w' := by
  obtain ⟨vh, vw, va, vb, vc, vd, rfl, h1, h2, h3, h4, h5, h6⟩ := h
  obtain ⟨p0, k0, rfl, _, _, _⟩ := h1.shape
  obtain ⟨p1, k1, rfl, _, _, _⟩ := h2.shape
  obtain ⟨p2, k2, rfl, _, _⟩ := h3.shape
  obtain ⟨p3, k3, rfl, _, _⟩ := h4.shape
  obtain ⟨p4, k4, rfl, _, _⟩ := h5.shape
  obtain ⟨p5, k5, rfl, _, _⟩ := h6.shape
  obtain ⟨p, cp, rfl, m1, m2, _⟩ := k.shape
  have hra : IsRA w (.agg #[.slice p0 R.hosts.length k0, .slice p1 R.waves.length k1, .bool R.rate.neg, .slice p2 R.rate.num.length k2, .slice p3 R.rate.den.length k3, .bool R.bound.neg, .slice p4 R.bound.num.length k4, .slice p5 R.bound.den.length k5]) R := ⟨_, _, _, _, _, _, rfl, h1, h2, h3, h4, h5, h6⟩
  obtain ⟨W0, hW, bx, hsz, hb0⟩ := start1 w #[.slice p0 R.hosts.length k0, .slice p1 R.waves.length k1, .bool R.rate.neg, .slice p2 R.rate.num.length k2, .slice p3 R.rate.den.length k3, .bool R.bound.neg, .slice p4 R.bound.num.length k4, .slice p5 R.bound.den.length k5] 28
  obtain ⟨c0, c1, c2, c3, c4, c5, c6, c7⟩ := bx.cells8
  have HRA := Lib.hid (hra.after hb0)
  have HFL := Lib.hid k.cut
  obtain ⟨fl, hfl⟩ : ∃ fl, bs.take 18 = fl := ⟨_, rfl⟩
  rw [hfl] at HFL
  have hfl18 : fl.length ≤ 18 := by rw [← hfl, List.length_take]; omega
  obtain ⟨Q, hQ⟩ : ∃ Q, cutR R = Q := ⟨_, rfl⟩
  have HQ := Lib.hid hQ
  have HQQ : Hid (cutR Q = Q) := by show _ = _; rw [← hQ, cutR_cutR]
  have hw18 : Q.waves.length ≤ 1000000 := by rw [← hQ]; unfold cutR; simp; omega
  have i1 : (0 : Int) ≤ min (bs.length : Int) 18 := by omega
  have i2 : min (bs.length : Int) 18 ≤ (cp : Int) := by omega
  have hn18 : (min (bs.length : Int) 18).toNat = fl.length := by rw [← hfl, List.length_take]; omega
  have HB := Lib.hid hb0
  have BX := Lib.hid bx
  clear hra bx hb0 h1 h2 h3 h4 h5 h6 k hQ hfl
  rw [hn18] at HFL
  have HN18 := Lib.hid hn18
  clear hn18
  go_enter Tryz.func5, Tryz.ntmps5
  go_upto_region 1 with fail
  rw [← hW]
  clear hW
  go_cut [1] (fun t wx => ∃ (a0 a1 a2 a3 a4 a5 : Option Addr) (e0 e1 e2 e3 e4 e5 : Nat), t = .slice p fl.length cp ∧ Hid (Box wx w.heap.size #[.slice a0 Q.hosts.length e0, .slice a1 Q.waves.length e1, .bool Q.rate.neg, .slice a2 Q.rate.num.length e2, .slice a3 Q.rate.den.length e3, .bool Q.bound.neg, .slice a4 Q.bound.num.length e4, .slice a5 Q.bound.den.length e5] 28) ∧ Hid (IsR wx (.agg #[.slice a0 Q.hosts.length e0, .slice a1 Q.waves.length e1, .bool Q.rate.neg, .slice a2 Q.rate.num.length e2, .slice a3 Q.rate.den.length e3, .bool Q.bound.neg, .slice a4 Q.bound.num.length e4, .slice a5 Q.bound.den.length e5]) Q) ∧ Hid (Below w.heap.size w wx))
  case first =>
    go_region_with (first
     | (go_at_call 6; refine (own32_a _ _ R ?_).mono ?_; exact HRA.out.after (below_dr (Below.refl _ W0)); rw [HQ.out]; rintro e w1 ⟨v1, rfl, hv1, hb1⟩; have hk1 := below_of_drew hb1; obtain ⟨a0, a1, a2, a3, a4, a5, e0, e1, e2, e3, e4, e5, rfl, _, _, _, _⟩ := hv1.open; have bx1 := BX.out.after hk1; obtain ⟨r0, r1, r2, r3, r4, r5, r6, r7⟩ := bx1.cells8; have f0 := bx1.frozen 0; have f1 := bx1.frozen 1; have f2 := bx1.frozen 2; have f3 := bx1.frozen 3; have f4 := bx1.frozen 4; have f5 := bx1.frozen 5; have f6 := bx1.frozen 6; have f7 := bx1.frozen 7; have hlt := bx1.lt))
    all_goals
      (go_wp2_with fail
       go_meet
       case rel =>
         have hst := ro_store bx1 hv1
         exact ⟨a0, a1, a2, a3, a4, a5, e0, e1, e2, e3, e4, e5, by rw [HN18.out], Lib.hid hst.1, Lib.hid hst.2, Lib.hid (set8_below (HB.out.trans (hk1.mono HB.out.size)) (Nat.le_refl _))⟩)
  case rest =>
  obtain ⟨a0, a1, a2, a3, a4, a5, e0, e1, e2, e3, e4, e5, rfl, BQ, HR, HBC⟩ := hcut
  clear HB BX HRA HQ c0 c1 c2 c3 c4 c5 c6 c7
  have HB := HBC
  clear HBC
  obtain ⟨oo, hN⟩ : ∃ o, runF Q fl = o := ⟨_, rfl⟩
  obtain ⟨ds, er⟩ := oo
  have HN := Lib.hid hN
  obtain ⟨oa, hA⟩ : ∃ o, allowedF Q = o := ⟨_, rfl⟩
  obtain ⟨al, ea⟩ := oa
  have HA := Lib.hid hA
  clear hN hA
  have HF3 := Lib.hid (HFL.out.after HB.out)
  have mkS : Hid (∀ w', Below wc.heap.size wc w' → w'.cell? ⟨w.heap.size, 0, none⟩ = some (.slice a0 Q.hosts.length e0) ∧ w'.cell? ⟨w.heap.size, 1, none⟩ = some (.slice a1 Q.waves.length e1) ∧ w'.cell? ⟨w.heap.size, 2, none⟩ = some (.bool Q.rate.neg) ∧ w'.cell? ⟨w.heap.size, 3, none⟩ = some (.slice a2 Q.rate.num.length e2) ∧ w'.cell? ⟨w.heap.size, 4, none⟩ = some (.slice a3 Q.rate.den.length e3) ∧ w'.cell? ⟨w.heap.size, 5, none⟩ = some (.bool Q.bound.neg) ∧ w'.cell? ⟨w.heap.size, 6, none⟩ = some (.slice a4 Q.bound.num.length e4) ∧ w'.cell? ⟨w.heap.size, 7, none⟩ = some (.slice a5 Q.bound.den.length e5)) := fun w' hb => (BQ.out.after hb).cells8
  have hltq := BQ.out.lt
  go_upto_region 2 with fail
  go_region_held3 (fun w' => w'.cell? ⟨w.heap.size, 0, none⟩ = some (.slice a0 Q.hosts.length e0) ∧ w'.cell? ⟨w.heap.size, 1, none⟩ = some (.slice a1 Q.waves.length e1) ∧ w'.cell? ⟨w.heap.size, 2, none⟩ = some (.bool Q.rate.neg) ∧ w'.cell? ⟨w.heap.size, 3, none⟩ = some (.slice a2 Q.rate.num.length e2) ∧ w'.cell? ⟨w.heap.size, 4, none⟩ = some (.slice a3 Q.rate.den.length e3) ∧ w'.cell? ⟨w.heap.size, 5, none⟩ = some (.bool Q.bound.neg) ∧ w'.cell? ⟨w.heap.size, 6, none⟩ = some (.slice a4 Q.bound.num.length e4) ∧ w'.cell? ⟨w.heap.size, 7, none⟩ = some (.slice a5 Q.bound.den.length e5))
    (first | (refine mkS.out _ ?_; (repeat (first | with_reducible exact hk2 | with_reducible exact hk1 | with_reducible exact Below.refl _ _ | with_reducible refine below_dr ?_)); done))
    (first
     | (go_at_call 8; refine (clone_b _ _ fl ?_ (by omega)).mono ?_; exact HF3.out.after (below_dr (Below.refl _ wc)); rintro e wa ⟨v, rfl, hv, _, hb1⟩; obtain ⟨pa, ca, rfl, _, _, _⟩ := hv.shape; have hk1 : Below wc.heap.size wc wa := below_of_drew hb1)
     | (go_at_call 19; refine (Run_c _ _ _ Q fl ?_ ?_).mono ?_; exact HR.out.after hk1; exact hv; rw [HN.out]; rintro e wb ⟨v2, rfl, hv2, hb2⟩; have hv2 : SlD wb v2 ds := hv2; have hk2 := hk1.trans (hb2.mono hk1.size))
     | (fail))
  obtain ⟨a6, g6, rfl, _, _, _⟩ := SlD.shape4 hv2
  have HD1 := Lib.hid hv2
  have hb := hk2
  clear mkS HF3 hv hv2 hb1 hb2 hk1 hk2 hltq
  replace HR := Lib.hid (HR.out.after hb)
  replace BQ := Lib.hid (BQ.out.after hb)
  replace HB := Lib.hid (HB.out.trans (hb.mono HB.out.size))
  clear hb
  obtain ⟨c0, c1, c2, c3, c4, c5, c6, c7⟩ := BQ.out.cells8
  have hltq := BQ.out.lt
  go_wp2_with fail
  refine (rRun_c _ _ _ Q fl HR.out (HFL.out.after HB.out) hw18).mono ?_
  rw [HN.out]
  rintro e w4 ⟨v4, rfl, hv, hb⟩
  have hv : SlD w4 v4 ds := hv
  obtain ⟨a7, g7, rfl, _, _, _⟩ := SlD.shape4 hv
  have HD2 := Lib.hid hv
  replace HR := Lib.hid (HR.out.after hb)
  replace BQ := Lib.hid (BQ.out.after hb)
  replace HD1 := Lib.hid (HD1.out.after hb)
  replace HB := Lib.hid (HB.out.trans (hb.mono HB.out.size))
  clear hv hb hltq c0 c1 c2 c3 c4 c5 c6 c7
  obtain ⟨c0, c1, c2, c3, c4, c5, c6, c7⟩ := BQ.out.cells8
  have hltq := BQ.out.lt
  go_wp2_with fail
  refine (Allowed_c _ _ Q HR.out).mono ?_
  rw [HA.out]
  rintro e w5 ⟨v5, rfl, hv, hb⟩
  have hv : SlI w5 v5 al := hv
  obtain ⟨a8, g8, rfl, _, _, _⟩ := hv.shape
  have HA1 := Lib.hid hv
  replace HR := Lib.hid (HR.out.after hb)
  replace BQ := Lib.hid (BQ.out.after hb)
  replace HD1 := Lib.hid (HD1.out.after hb)
  replace HD2 := Lib.hid (HD2.out.after hb)
  replace HB := Lib.hid (HB.out.trans (hb.mono HB.out.size))
  clear hv hb hltq c0 c1 c2 c3 c4 c5 c6 c7
  obtain ⟨c0, c1, c2, c3, c4, c5, c6, c7⟩ := BQ.out.cells8
  have hltq := BQ.out.lt
  go_wp2_with fail
  refine (rAllowed_c _ _ Q HR.out hw18).mono ?_
  rw [HA.out]
  rintro e w6 ⟨v6, rfl, hv, hb⟩
  have hv : SlI w6 v6 al := hv
  obtain ⟨a9, g9, rfl, _, _, _⟩ := hv.shape
  have HA2 := Lib.hid hv
  replace HR := Lib.hid (HR.out.after hb)
  replace BQ := Lib.hid (BQ.out.after hb)
  replace HD1 := Lib.hid (HD1.out.after hb)
  replace HD2 := Lib.hid (HD2.out.after hb)
  replace HA1 := Lib.hid (HA1.out.after hb)
  replace HB := Lib.hid (HB.out.trans (hb.mono HB.out.size))
  clear hv hb hltq c0 c1 c2 c3 c4 c5 c6 c7
  go_wp2_with fail
  refine (equalFunc_c _ _ _ ds ds HD1.out HD2.out).mono ?_
  intro e n1 hr
  obtain ⟨rfl, hb⟩ := hr.yes rfl
  replace HA1 := Lib.hid (HA1.out.after hb)
  replace HA2 := Lib.hid (HA2.out.after hb)
  replace HB := Lib.hid (HB.out.trans (hb.mono HB.out.size))
  clear hb hr HD1 HD2
  go_wp2_with fail
  refine (equal_i _ _ _ al al HA1.out HA2.out).mono ?_
  intro e n2 hr
  obtain ⟨rfl, hw⟩ := hr.yes rfl
  have hb := below_dn hw
  replace HB := Lib.hid (HB.out.trans (hb.mono HB.out.size))
  clear hb hw hr HA1 HA2
  go_wp2_with fail
  refine (works32_c _).mono ?_
  rintro e w9 ⟨rfl, hb⟩
  have HEND := Lib.hid (HB.out.trans (hb.mono HB.out.size))
  clear hb
  go_wp2_with fail
  go_ret
  exact ⟨rfl, HEND.out⟩
end Go.Proofs.YtjjefdkadgkhfaaGreat
