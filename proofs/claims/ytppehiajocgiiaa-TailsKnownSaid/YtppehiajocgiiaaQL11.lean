/- The walk of TailsKnown: the chapter's examples, limits and errors. -/
import Derived.Test.YtppehiajocgiiaaQK2
import Derived.Test.YtppehiajocgiiaaK21
import Derived.Test.YtppehiajocgiiaaQD3
import Derived.Deep.DeepCutAuto
set_option linter.unusedVariables false
namespace Go.Proofs.Ytppehiajocgiiaa
open Go.RowKit

theorem VarF.of {w : World} {b : Nat} {x : F} {va vb : Value} (h : Box w b #[.bool x.neg, va, vb] 25) (k : IsF w (.agg #[.bool x.neg, va, vb]) x) : VarF w b x := by
  obtain ⟨_, h1, h2⟩ := k.parts
  exact ⟨va, vb, h, h1, h2⟩
theorem after_new4 {wi w2 : World} {a b c d : Array Value} {ta tb tc td : TypeId} (hb : Below ((((wi.alloc (.cells a ta)).alloc (.cells b tb)).alloc (.cells c tc)).alloc (.cells d td)).heap.size ((((wi.alloc (.cells a ta)).alloc (.cells b tb)).alloc (.cells c tc)).alloc (.cells d td)) w2) :
    Below wi.heap.size wi w2 ∧ Box w2 wi.heap.size a ta ∧ Box w2 (wi.heap.size + 1) b tb ∧ Box w2 (wi.heap.size + 1 + 1) c tc ∧ Box w2 (wi.heap.size + 1 + 1 + 1) d td := by
  obtain ⟨h3, c4⟩ := after_new hb
  obtain ⟨h2, c3⟩ := after_new h3
  obtain ⟨h1, c2⟩ := after_new h2
  obtain ⟨h0, c1⟩ := after_new h1
  exact ⟨h0, c1, by simpa using c2, by simpa using c3, by simpa using c4⟩
theorem Box.cells2 {w : World} {b : Nat} {x y : Value} {t : TypeId} (h : Box w b #[x, y] t) : w.cell? ⟨b, 0, none⟩ = some x ∧ w.cell? ⟨b, 1, none⟩ = some y := ⟨h.cell 0, h.cell 1⟩
/-- The numbers that are refused. -/
theorem bad_at {w : World} {B i : Nat} (h : Box w B #[.int .i64 (-1), .int .i64 0, .int .i64 65, .int .i64 0, .int .i64 5, .int .i64 (-1), .int .i64 5, .int .i64 7] 53) (hi : i < 4) :
    ∃ x0 x1 : Int, w.cell? ⟨B, i * 2, none⟩ = some (.int .i64 x0) ∧ w.cell? ⟨B, i * 2 + 1, none⟩ = some (.int .i64 x1) ∧ trialsB x0 x1 x0 = false ∧ trialsB x0 x1 (IntKind.i64.wrap (x0 + 1)) = false := by
  match i, hi with
  | 0, _ => exact ⟨-1, 0, h.cell 0, h.cell 1, rfl, rfl⟩
  | 1, _ => exact ⟨65, 0, h.cell 2, h.cell 3, rfl, rfl⟩
  | 2, _ => exact ⟨5, -1, h.cell 4, h.cell 5, rfl, rfl⟩
  | 3, _ => exact ⟨5, 7, h.cell 6, h.cell 7, rfl, by decide⟩

/-- The rates that are refused. -/
theorem bad_rates {i : Nat} (hi : i < 3) : ∃ x, [fr true 1 2, fr false 3 2, fr false 1 1001][i]? = some x ∧ rateE x = 2 := by
  match i, hi with
  | 0, _ => exact ⟨_, rfl, rate_of_frac (fracE_neg okm12) (by omega)⟩
  | 1, _ => exact ⟨_, rfl, rate_of_frac (fracE_big ok32 (by omega)) (by omega)⟩
  | 2, _ => exact ⟨_, rfl, rateE_den ok11001 (by omega) (by omega)⟩
theorem crit_rate {n : Int} {x : F} {r : Int × Int} (hr : rateE x = 2) (h : critF n x (fr false 1 2) r) : r = (0, 2) := by
  have hc : checkE x (trialsB n 0 0) = 2 := by rw [checkE_bad (by rw [hr]; omega), hr]
  have hf := fracE_ok ok12 (by omega)
  have := critF_bad (fun hh => by rw [hc] at hh; exact absurd hh.1 (by omega)) h
  rw [this, hc, hf]
  rfl
theorem two_odd (w : World) : ∃ wm, Below w.heap.size w wm ∧ SlF wm (.slice (some ⟨w.heap.size + 1 + 1, 0, none⟩) 2 2) [F0, fr false 2 4] ∧
    wm = ((w.alloc (.cells #[.int .u32 2] 49)).alloc (.cells #[.int .u32 4] 49)).alloc (.cells #[.bool false, .slice none 0 0, .slice none 0 0, .bool false, .slice (some ⟨w.heap.size, 0, none⟩) 1 1, .slice (some ⟨w.heap.size + 1, 0, none⟩) 1 1] 25) := by
  have h1 : Sl (w.alloc (.cells #[.int .u32 2] 49)) (.slice (some ⟨w.heap.size, 0, none⟩) 1 1) (limbs 2) := by
    rw [limbs_small (by omega) (by omega)]
    exact Sl.of_row (l := [2]) (Row32.lit1 w 2 2 rfl) (Lb.cons (by omega) Lb.nil) (by simp) (by omega)
  have h2 : Sl ((w.alloc (.cells #[.int .u32 2] 49)).alloc (.cells #[.int .u32 4] 49)) (.slice (some ⟨w.heap.size + 1, 0, none⟩) 1 1) (limbs 4) := by
    rw [limbs_small (by omega) (by omega)]
    have := Sl.of_row (cap := 1) (l := [4]) (Row32.lit1 (w.alloc (.cells #[.int .u32 2] 49)) 4 4 rfl) (Lb.cons (by omega) Lb.nil) (by simp) (by omega)
    simpa using this
  refine ⟨_, ?_, ?_, rfl⟩
  · exact (((Below.refl _ w).alloc (Nat.le_refl _) _).alloc (by simp) _).alloc (by simp; omega) _
  · have := SlF.two ((w.alloc (.cells #[.int .u32 2] 49)).alloc (.cells #[.int .u32 4] 49)) (x := F0) (y := fr false 2 4) (cap := 2) (IsF.zero _) ⟨_, _, rfl, h1.alloc _, h2⟩ rfl 25
    rw [show ((w.alloc (.cells #[.int .u32 2] 49)).alloc (.cells #[.int .u32 4] 49)).heap.size = w.heap.size + 1 + 1 by simp] at this
    exact this
theorem kk_choose : chooseF 5 6 = ([], 2) := chooseF_bad rfl
theorem kk_exactly : exactlyF 5 6 (fr false 1 2) = (F0, 2) := exactlyF_bad (rateE_ok ok12 (by omega) (by omega)) rfl
theorem kk_tail : tailF 5 6 (fr false 1 2) = (fr false 0 1, 0) := by
  have h := (tailF_q (m := 5) (k := 6) ok12 (by omega) (by omega) (by omega) (by omega)).1
  rw [show Tq 1 2 5 6 = fr false 0 1 from Tq_last (m := 5) ok12 (by omega) (by omega) (by omega)] at h
  exact h
theorem w_m12 : (ofF (-1) 2).1 = fr true 1 2 := by
  unfold ofF
  rw [if_neg (by omega)]
  exact congrArg Prod.fst (made_okS okm12)
theorem w_32h : (ofF 3 2).1 = fr false 3 2 := congrArg Prod.fst (ofF_ok (a := 3) (b := 2) rfl rfl ok32)
theorem w_1001 : (ofF 1 1001).1 = fr false 1 1001 := congrArg Prod.fst (ofF_ok (a := 1) (b := 1001) rfl rfl ok11001)

theorem odd_rates {i : Nat} (hi : i < 2) : ∃ x, [F0, fr false 2 4][i]? = some x ∧ rateE x = 1 ∧ fracE x = 1 := by
  have h1 : fracE (fr false 2 4) = 1 := fracE_gcd (by decide)
  match i, hi with
  | 0, _ => exact ⟨_, rfl, rate_of_frac fracE_zero_den (by omega), fracE_zero_den⟩
  | 1, _ => exact ⟨_, rfl, rate_of_frac h1 (by omega), h1⟩
theorem crit_odd1 {n : Int} {x y : F} {r : Int × Int} (hr : rateE x = 1) (h : critF n x y r) : r = (0, 1) := by
  have hc : checkE x (trialsB n 0 0) = 1 := by rw [checkE_bad (by rw [hr]; omega), hr]
  have := critF_bad (fun hh => by rw [hc] at hh; exact absurd hh.1 (by omega)) h
  rw [this, if_pos (.inl hc)]
theorem crit_odd2 {n : Int} {x y : F} {r : Int × Int} (hf : fracE y = 1) (h : critF n x y r) : r = (0, 1) := by
  have := critF_bad (fun hh => by rw [hf] at hh; exact absurd hh.2 (by omega)) h
  rw [this, if_pos (.inr hf)]
theorem kk_c65 {r : Int × Int} (h : critF 65 (fr false 1 2) (fr false 1 2) r) : r = (0, 2) := by
  have hc : checkE (fr false 1 2) (trialsB 65 0 0) = 2 := checkE_false (rateE_ok ok12 (by omega) (by omega))
  have := critF_bad (fun hh => by rw [hc] at hh; exact absurd hh.1 (by omega)) h
  rw [this, hc, fracE_ok ok12 (by omega)]
  rfl
theorem kk_c5 {r : Int × Int} (h : critF 5 (fr false 1 2) (fr false 3 2) r) : r = (0, 2) := by
  have hf : fracE (fr false 3 2) = 2 := fracE_big ok32 (by omega)
  have hr : rateE (fr false 1 2) = 0 := rateE_ok ok12 (by omega) (by omega)
  have := critF_bad (fun hh => by rw [hf] at hh; exact absurd hh.2 (by omega)) h
  rw [this, hf, if_neg]
  rintro (h1 | h1)
  · rw [show checkE (fr false 1 2) (trialsB 5 0 0) = 0 from checkE_true hr] at h1; omega
  · omega
theorem kk_u1 {r : Int × Int} (h : upperF 5 1 (fr true 1 2) 10 r) : r = (0, 2) := upperF_err (fracE_neg okm12) (by omega) h
theorem kk_u2 {r : Int × Int} (h : upperF 5 1 (fr false 1 2) 0 r) : r = (0, 2) := upperF_bad (fracE_ok ok12 (by omega)) (fun hh => by omega) h
theorem kk_u3 {r : Int × Int} (h : upperF 5 1 (fr false 1 2) 1001 r) : r = (0, 2) := upperF_bad (fracE_ok ok12 (by omega)) (fun hh => by omega) h
theorem ups_at {w : World} {B i : Nat} (h : Box w B #[.int .i64 0, .int .i64 0, .int .i64 4, .int .i64 9] 56) (hi : i < 2) :
    ∃ x0 x1 : Int, w.cell? ⟨B, i * 2, none⟩ = some (.int .i64 x0) ∧ w.cell? ⟨B, i * 2 + 1, none⟩ = some (.int .i64 x1) ∧ ∀ {r : Int × Int}, upperF 4 x0 (fr false 1 2) 10 r → r = (x1, 0) := by
  match i, hi with
  | 0, _ => exact ⟨0, 0, h.cell 0, h.cell 1, k_up0⟩
  | 1, _ => exact ⟨4, 9, h.cell 2, h.cell 3, k_up4⟩
theorem w_181 : (ofF 1 81).1 = fr false 1 81 := congrArg Prod.fst (ofF_ok (a := 1) (b := 81) rfl rfl ok181)
theorem w_999 : (ofF 999 1000).1 = fr false 999 1000 := congrArg Prod.fst (ofF_ok (a := 999) (b := 1000) rfl rfl ok999)
theorem w_1000 : (ofF 1 1000).1 = fr false 1 1000 := congrArg Prod.fst (ofF_ok (a := 1) (b := 1000) rfl rfl ok1000)
theorem kk_big : ∃ M : Nat, chooseF 64 32 = (limbs M, 0) ∧ Ok false M 1 ∧ decS M ++ ⟨#[47]⟩ ++ decS 1 = ⟨#[49, 56, 51, 50, 54, 50, 52, 49, 52, 48, 57, 52, 50, 53, 57, 48, 53, 51, 52, 47, 49]⟩ := by
  refine ⟨ch 64 32, ?_, ?_, ?_⟩
  · unfold chooseF
    rw [if_pos (by rfl)]
    rfl
  · rw [ch_64]
    refine ⟨?_, ?_, by omega, Nat.gcd_one_right _, fun _ => rfl⟩
    · rw [limbs_ge (k := 1) (by omega) (by omega)]; omega
    · rw [limbs_small (by omega) (by omega)]; simp
  · rw [ch_64, k_dec, k_dec1]; rfl
theorem kk_p : ∃ P, exactlyF 64 64 (fr false 999 1000) = (P, 0) ∧ P.den.length = 20 := ⟨_, k_exactly, len_20⟩
theorem kk_q : tailF 64 1 (fr false 1 1000) = (Tq 1 1000 64 1, 0) := (tailF_q (m := 64) (k := 1) ok1000 (by omega) (by omega) (by omega) (by omega)).1
theorem kk_r : exactlyF 64 0 (fr false 1 1000) = (Eq_ 1 1000 64 0, 0) := (exactlyF_q (m := 64) (k := 0) ok1000 (by omega) (by omega) (by omega) (by omega)).1
theorem kk_sum : opF sumN (Tq 1 1000 64 1) (Eq_ 1 1000 64 0) = (fr false 1 1, 0) := by
  have h := Tq_add (m := 64) (k := 0) ok1000 (by omega) (by omega) (by omega) (by omega)
  rwa [Tq_zero ok1000 (by omega) (by omega) (by omega)] at h
theorem Sl_one (w : World) : Sl (w.alloc (.cells #[.int .u32 1] 49)) (.slice (some ⟨w.heap.size, 0, none⟩) 1 1) (limbs 1) := by
  rw [limbs_small (by omega) (by omega)]
  exact Sl.of_row (l := [1]) (Row32.lit1 w 1 1 rfl) (Lb.cons (by omega) Lb.nil) (by simp) (by omega)

set_option maxRecDepth 100000 in
set_option maxHeartbeats 16000000 in
theorem known_walk (w : World) : Calls Try.prog 9 #[] w fun e w' => e = .returned (.bool true) ∧ Below w.heap.size w w' := by
  have HB : Hid (Below w.heap.size w w) := Below.refl _ _
  go_enter Try.func9, Try.ntmps9
  go_wp2_with fail
  refine (of_c _ 1 2 (by omega) (by omega) (by omega) (by omega)).mono ?_
  rw [w_half1]
  rintro e w1 ⟨v, rfl, hv, hb1⟩
  have hv : IsF _ v (fr false 1 2) := hv
  obtain ⟨va, vb, rfl, h1, h2⟩ := hv
  obtain ⟨pH, mH, rfl, _, _⟩ := h1.shape
  obtain ⟨qH, nH, rfl, _, _⟩ := h2.shape
  have FH := Lib.hid (IsF.at_ h1 h2)
  clear h1 h2
  replace HB := Lib.hid (HB.out.trans (hb1.mono HB.out.size))
  clear hb1
  go_wp2_with fail
  refine (of_c _ 1 3 (by omega) (by omega) (by omega) (by omega)).mono ?_
  rw [w_third1]
  rintro e w2 ⟨v, rfl, hv, hb2⟩
  have hv : IsF _ v (fr false 1 3) := hv
  obtain ⟨va, vb, rfl, h1, h2⟩ := hv
  obtain ⟨pT, mT, rfl, _, _⟩ := h1.shape
  obtain ⟨qT, nT, rfl, _, _⟩ := h2.shape
  have FT := Lib.hid (IsF.at_ h1 h2)
  clear h1 h2
  replace FH := Lib.hid (FH.out.after hb2)
  replace HB := Lib.hid (HB.out.trans (hb2.mono HB.out.size))
  clear hb2
  go_wp2_with fail
  refine (of_c _ 0 1 (by omega) (by omega) (by omega) (by omega)).mono ?_
  rw [w_01]
  rintro e w3 ⟨v, rfl, hv, hb3⟩
  have hv : IsF _ v (fr false 0 1) := hv
  obtain ⟨va, vb, rfl, h1, h2⟩ := hv
  obtain ⟨pZ, mZ, rfl, _, _⟩ := h1.shape
  obtain ⟨qZ, nZ, rfl, _, _⟩ := h2.shape
  have FZ := Lib.hid (IsF.at_ h1 h2)
  clear h1 h2
  replace FH := Lib.hid (FH.out.after hb3)
  replace FT := Lib.hid (FT.out.after hb3)
  replace HB := Lib.hid (HB.out.trans (hb3.mono HB.out.size))
  clear hb3
  go_wp2_with fail
  obtain ⟨w4, hw⟩ : ∃ w4, w4 = (((w3.alloc (.cells #[.bool (fr false 1 2).neg, .slice pH (fr false 1 2).num.length mH, .slice qH (fr false 1 2).den.length nH] 25)).alloc (.cells #[.bool (fr false 1 3).neg, .slice pT (fr false 1 3).num.length mT, .slice qT (fr false 1 3).den.length nT] 25)).alloc (.cells #[.bool (fr false 0 1).neg, .slice pZ (fr false 0 1).num.length mZ, .slice qZ (fr false 0 1).den.length nZ] 25)).alloc (.cells #[.int .i64 (-1), .int .i64 0, .int .i64 65, .int .i64 0, .int .i64 5, .int .i64 (-1), .int .i64 5, .int .i64 7] 53) := ⟨_, rfl⟩
  obtain ⟨hb4, CH, CT, CZ, CX⟩ := after_new4 (below_same hw)
  rw [← hw]
  clear hw
  have VH : Hid (VarF w4 (w3.heap.size) (fr false 1 2)) := VarF.of CH (FH.out.after hb4)
  have VT : Hid (VarF w4 (w3.heap.size + 1) (fr false 1 3)) := VarF.of CT (FT.out.after hb4)
  have VZ : Hid (VarF w4 (w3.heap.size + 1 + 1) (fr false 0 1)) := VarF.of CZ (FZ.out.after hb4)
  replace HB := Lib.hid (HB.out.trans (hb4.mono HB.out.size))
  have CX2 := Lib.hid CX
  clear CH CT CZ CX FH FT FZ hb4
  go_loopg [67] 4 (fun g t wx => ∃ i : Nat, i ≤ 4 ∧ g = 4 - i ∧ t = .int .i64 (i : Int) ∧ Hid (Box wx (w3.heap.size + 1 + 1 + 1) #[.int .i64 (-1), .int .i64 0, .int .i64 65, .int .i64 0, .int .i64 5, .int .i64 (-1), .int .i64 5, .int .i64 7] 53) ∧ Hid (VarF wx (w3.heap.size) (fr false 1 2)) ∧ Hid (VarF wx (w3.heap.size + 1) (fr false 1 3)) ∧ Hid (VarF wx (w3.heap.size + 1 + 1) (fr false 0 1)) ∧ Hid (Below w.heap.size w wx))
  case atStart => exact ⟨0, Nat.zero_le _, rfl, rfl, CX2.out, VH.out, VT.out, VZ.out, HB.out⟩
  case round =>
    obtain ⟨i, hi4, rfl, rfl, hbx, hvH, hvT, hvZ, hbl⟩ := hrel
    clear VH VT VZ CX2 HB
    have HB := hbl
    clear hbl
    by_cases hlt : i < 4
    · obtain ⟨x0, x1, hc0, hc1, hb1, hb2⟩ := bad_at hbx.out hlt
      have hi0 : (0 : Int) ≤ (i : Int) := Int.natCast_nonneg _
      have hi5 : (i : Int) < 4 := by omega
      have HC1 : Hid (chooseF x0 x1 = ([], 2)) := chooseF_bad hb1
      have HE1 : Hid (exactlyF x0 x1 (fr false 1 2) = (F0, 2)) := exactlyF_bad (rateE_ok ok12 (by omega) (by omega)) hb1
      have HT1 : Hid (tailF x0 x1 (fr false 1 2) = (F0, 2)) := tailF_bad (rateE_ok ok12 (by omega) (by omega)) hb2
      have HU1 : Hid (∀ r, upperF x0 x1 (fr false 1 2) 10 r → r = (0, 2)) := fun r hr => upperF_bad (fracE_ok ok12 (by omega)) (fun h => by rw [hb2] at h; cases h.1) hr
      clear hb1 hb2
      obtain ⟨va, vb, hbx, h1, h2⟩ := hvH.out
      obtain ⟨pH, mH, rfl, _, _⟩ := h1.shape
      obtain ⟨qH, nH, rfl, _, _⟩ := h2.shape
      have CH := Lib.hid hbx
      have FH := Lib.hid (IsF.at_ h1 h2)
      clear hbx h1 h2
      clear hvH
      have hcx := hbx.out.lt
      have d_H_X : w3.heap.size < wr.heap.size := CH.out.lt
      have g_X : w.heap.size ≤ wr.heap.size := by have := HB.out.size; omega
      obtain ⟨cH0, cH1, cH2⟩ := CH.out.cells3
      have ltH := CH.out.lt
      go_wp2_with fail
      refine (tChoose_c _ x0 x1).mono ?_
      rw [HC1.out]
      rintro e w11 ⟨v, rfl, hv, hb11⟩
      have hv : Sl _ v (([] : List Nat)) := hv
      obtain ⟨pc, qc, rfl, _, _⟩ := hv.shape
      have Fc := Lib.hid hv
      clear hv
      clear cH0 cH1 cH2 ltH
      obtain ⟨hb11, CX⟩ := after_new hb11
      replace CX := Lib.hid CX
      replace CH := Lib.hid (CH.out.after hb11)
      replace FH := Lib.hid (FH.out.after hb11)
      replace hbx := Lib.hid (hbx.out.after hb11)
      replace hvT := Lib.hid (hvT.out.after hb11)
      replace hvZ := Lib.hid (hvZ.out.after hb11)
      replace HB := Lib.hid (HB.out.trans (hb11.mono HB.out.size))
      clear hb11
      clear Fc
      obtain ⟨cH0, cH1, cH2⟩ := CH.out.cells3
      have ltH := CH.out.lt
      obtain ⟨cX0, cX1⟩ := CX.out.cells2
      have ltX := CX.out.lt
      go_wp2_with fail
      refine (tExactly_c _ x0 x1 _ _ FH.out).mono ?_
      rw [HE1.out]
      rintro e w12 ⟨v, rfl, hv, hb12⟩
      have hv : IsF _ v (F0) := hv
      obtain ⟨va, vb, rfl, h1, h2⟩ := hv
      obtain ⟨pe1, me1, rfl, _, _⟩ := h1.shape
      obtain ⟨qe1, ne1, rfl, _, _⟩ := h2.shape
      have Fe1 := Lib.hid (IsF.at_ h1 h2)
      clear h1 h2
      clear cH0 cH1 cH2 ltH cX0 cX1 ltX
      replace CH := Lib.hid (CH.out.after hb12)
      replace CX := Lib.hid (CX.out.after hb12)
      replace FH := Lib.hid (FH.out.after hb12)
      replace hbx := Lib.hid (hbx.out.after hb12)
      replace hvT := Lib.hid (hvT.out.after hb12)
      replace hvZ := Lib.hid (hvZ.out.after hb12)
      replace HB := Lib.hid (HB.out.trans (hb12.mono HB.out.size))
      clear hb12
      have d_H_e1 : w3.heap.size < w12.heap.size := CH.out.lt
      have d_X_e1 : wr.heap.size < w12.heap.size := CX.out.lt
      have g_e1 : w.heap.size ≤ w12.heap.size := by have := HB.out.size; omega
      obtain ⟨cH0, cH1, cH2⟩ := CH.out.cells3
      have ltH := CH.out.lt
      obtain ⟨cX0, cX1⟩ := CX.out.cells2
      have ltX := CX.out.lt
      go_wp2_with fail
      refine (tTail_c _ x0 x1 _ _ (FH.out.alloc _)).mono ?_
      rw [HT1.out]
      rintro e w13 ⟨v, rfl, hv, hb13⟩
      have hv : IsF _ v (F0) := hv
      obtain ⟨va, vb, rfl, h1, h2⟩ := hv
      obtain ⟨pe2, me2, rfl, _, _⟩ := h1.shape
      obtain ⟨qe2, ne2, rfl, _, _⟩ := h2.shape
      have Fe2 := Lib.hid (IsF.at_ h1 h2)
      clear h1 h2
      clear cH0 cH1 cH2 ltH cX0 cX1 ltX
      obtain ⟨hb13, Ce1⟩ := after_new hb13
      replace Ce1 := Lib.hid Ce1
      replace CH := Lib.hid (CH.out.after hb13)
      replace CX := Lib.hid (CX.out.after hb13)
      replace FH := Lib.hid (FH.out.after hb13)
      replace Fe1 := Lib.hid (Fe1.out.after hb13)
      replace hbx := Lib.hid (hbx.out.after hb13)
      replace hvT := Lib.hid (hvT.out.after hb13)
      replace hvZ := Lib.hid (hvZ.out.after hb13)
      replace HB := Lib.hid (HB.out.trans (hb13.mono HB.out.size))
      clear hb13
      clear Fe1 Ce1
      have d_H_e2 : w3.heap.size < w13.heap.size := CH.out.lt
      have d_X_e2 : wr.heap.size < w13.heap.size := CX.out.lt
      have g_e2 : w.heap.size ≤ w13.heap.size := by have := HB.out.size; omega
      obtain ⟨cH0, cH1, cH2⟩ := CH.out.cells3
      have ltH := CH.out.lt
      obtain ⟨cX0, cX1⟩ := CX.out.cells2
      have ltX := CX.out.lt
      go_wp2_with fail
      refine (tUpper_c _ x0 x1 10 _ _ (FH.out.alloc _)).mono ?_
      rintro e w14 ⟨ru, rfl, hru, hb14⟩
      clear cH0 cH1 cH2 ltH cX0 cX1 ltX
      obtain ⟨hb14, Ce2⟩ := after_new hb14
      replace Ce2 := Lib.hid Ce2
      replace CH := Lib.hid (CH.out.after hb14)
      replace CX := Lib.hid (CX.out.after hb14)
      replace FH := Lib.hid (FH.out.after hb14)
      replace Fe2 := Lib.hid (Fe2.out.after hb14)
      replace hbx := Lib.hid (hbx.out.after hb14)
      replace hvT := Lib.hid (hvT.out.after hb14)
      replace hvZ := Lib.hid (hvZ.out.after hb14)
      replace HB := Lib.hid (HB.out.trans (hb14.mono HB.out.size))
      clear hb14
      obtain rfl := HU1.out _ hru
      clear hru
      clear Fe2 Ce2 CX
      go_wp2_with fail
      go_roundg (4 - (i + 1))
      case measure => omega
      case rel => exact ⟨i + 1, by omega, rfl, by go_num, hbx.out, VarF.of CH.out FH.out, hvT.out, hvZ.out, HB.out⟩
    · obtain rfl : i = 4 := by omega
      obtain ⟨va, vb, hbx, h1, h2⟩ := hvH.out
      obtain ⟨pH, mH, rfl, _, _⟩ := h1.shape
      obtain ⟨qH, nH, rfl, _, _⟩ := h2.shape
      have CH := Lib.hid hbx
      have FH := Lib.hid (IsF.at_ h1 h2)
      clear hbx h1 h2
      clear hvH hbx
      obtain ⟨cH0, cH1, cH2⟩ := CH.out.cells3
      have ltH := CH.out.lt
      go_wp2_with fail
      refine (tChoose_c _ 5 6).mono ?_
      rw [kk_choose]
      rintro e w31 ⟨v, rfl, hv, hb31⟩
      have hv : Sl _ v (([] : List Nat)) := hv
      obtain ⟨pc, qc, rfl, _, _⟩ := hv.shape
      have Fc := Lib.hid hv
      clear hv
      clear cH0 cH1 cH2 ltH
      replace CH := Lib.hid (CH.out.after hb31)
      replace FH := Lib.hid (FH.out.after hb31)
      replace hvT := Lib.hid (hvT.out.after hb31)
      replace hvZ := Lib.hid (hvZ.out.after hb31)
      replace HB := Lib.hid (HB.out.trans (hb31.mono HB.out.size))
      clear hb31
      clear Fc
      obtain ⟨cH0, cH1, cH2⟩ := CH.out.cells3
      have ltH := CH.out.lt
      go_wp2_with fail
      refine (tExactly_c _ 5 6 _ _ FH.out).mono ?_
      rw [kk_exactly]
      rintro e w32 ⟨v, rfl, hv, hb32⟩
      have hv : IsF _ v (F0) := hv
      obtain ⟨va, vb, rfl, h1, h2⟩ := hv
      obtain ⟨pe1, me1, rfl, _, _⟩ := h1.shape
      obtain ⟨qe1, ne1, rfl, _, _⟩ := h2.shape
      have Fe1 := Lib.hid (IsF.at_ h1 h2)
      clear h1 h2
      clear cH0 cH1 cH2 ltH
      replace CH := Lib.hid (CH.out.after hb32)
      replace FH := Lib.hid (FH.out.after hb32)
      replace hvT := Lib.hid (hvT.out.after hb32)
      replace hvZ := Lib.hid (hvZ.out.after hb32)
      replace HB := Lib.hid (HB.out.trans (hb32.mono HB.out.size))
      clear hb32
      have d_H_e1 : w3.heap.size < w32.heap.size := CH.out.lt
      have g_e1 : w.heap.size ≤ w32.heap.size := by have := HB.out.size; omega
      obtain ⟨cH0, cH1, cH2⟩ := CH.out.cells3
      have ltH := CH.out.lt
      go_wp2_with fail
      refine (tTail_c _ 5 6 _ _ (FH.out.alloc _)).mono ?_
      rw [kk_tail]
      rintro e w33 ⟨v, rfl, hv, hb33⟩
      have hv : IsF _ v (fr false 0 1) := hv
      obtain ⟨va, vb, rfl, h1, h2⟩ := hv
      obtain ⟨px, mx, rfl, _, _⟩ := h1.shape
      obtain ⟨qx, nx, rfl, _, _⟩ := h2.shape
      have Fx := Lib.hid (IsF.at_ h1 h2)
      clear h1 h2
      clear cH0 cH1 cH2 ltH
      obtain ⟨hb33, Ce1⟩ := after_new hb33
      replace Ce1 := Lib.hid Ce1
      replace CH := Lib.hid (CH.out.after hb33)
      replace FH := Lib.hid (FH.out.after hb33)
      replace Fe1 := Lib.hid (Fe1.out.after hb33)
      replace hvT := Lib.hid (hvT.out.after hb33)
      replace hvZ := Lib.hid (hvZ.out.after hb33)
      replace HB := Lib.hid (HB.out.trans (hb33.mono HB.out.size))
      clear hb33
      clear Fe1 Ce1
      have d_H_x : w3.heap.size < w33.heap.size := CH.out.lt
      have g_x : w.heap.size ≤ w33.heap.size := by have := HB.out.size; omega
      obtain ⟨cH0, cH1, cH2⟩ := CH.out.cells3
      have ltH := CH.out.lt
      go_wp2_with fail
      refine (is_c _ _ (fr false 0 1) 0 0 1 (Fx.out.alloc _) (by omega) (by omega) (by omega) (by omega)).mono ?_
      intro e w34 hr
      obtain ⟨rfl, hb34⟩ := hr.yes ⟨rfl, w_01.symm⟩
      clear hr
      clear cH0 cH1 cH2 ltH
      obtain ⟨hb34, Cx⟩ := after_new hb34
      replace Cx := Lib.hid Cx
      replace CH := Lib.hid (CH.out.after hb34)
      replace FH := Lib.hid (FH.out.after hb34)
      replace Fx := Lib.hid (Fx.out.after hb34)
      replace hvT := Lib.hid (hvT.out.after hb34)
      replace hvZ := Lib.hid (hvZ.out.after hb34)
      replace HB := Lib.hid (HB.out.trans (hb34.mono HB.out.size))
      clear hb34
      clear Fx Cx
      obtain ⟨cH0, cH1, cH2⟩ := CH.out.cells3
      have ltH := CH.out.lt
      go_wp2_with fail
      refine (of_c _ (-1) 2 (by omega) (by omega) (by omega) (by omega)).mono ?_
      rw [w_m12]
      rintro e w35 ⟨v, rfl, hv, hb35⟩
      have hv : IsF _ v (fr true 1 2) := hv
      obtain ⟨va, vb, rfl, h1, h2⟩ := hv
      obtain ⟨pa, ma, rfl, _, _⟩ := h1.shape
      obtain ⟨qa, na, rfl, _, _⟩ := h2.shape
      have Fa := Lib.hid (IsF.at_ h1 h2)
      clear h1 h2
      clear cH0 cH1 cH2 ltH
      replace CH := Lib.hid (CH.out.after hb35)
      replace FH := Lib.hid (FH.out.after hb35)
      replace hvT := Lib.hid (hvT.out.after hb35)
      replace hvZ := Lib.hid (hvZ.out.after hb35)
      replace HB := Lib.hid (HB.out.trans (hb35.mono HB.out.size))
      clear hb35
      obtain ⟨cH0, cH1, cH2⟩ := CH.out.cells3
      have ltH := CH.out.lt
      go_wp2_with fail
      refine (of_c _ 3 2 (by omega) (by omega) (by omega) (by omega)).mono ?_
      rw [w_32h]
      rintro e w36 ⟨v, rfl, hv, hb36⟩
      have hv : IsF _ v (fr false 3 2) := hv
      obtain ⟨va, vb, rfl, h1, h2⟩ := hv
      obtain ⟨pb, mb, rfl, _, _⟩ := h1.shape
      obtain ⟨qb, nb, rfl, _, _⟩ := h2.shape
      have Fb := Lib.hid (IsF.at_ h1 h2)
      clear h1 h2
      clear cH0 cH1 cH2 ltH
      replace CH := Lib.hid (CH.out.after hb36)
      replace FH := Lib.hid (FH.out.after hb36)
      replace Fa := Lib.hid (Fa.out.after hb36)
      replace hvT := Lib.hid (hvT.out.after hb36)
      replace hvZ := Lib.hid (hvZ.out.after hb36)
      replace HB := Lib.hid (HB.out.trans (hb36.mono HB.out.size))
      clear hb36
      obtain ⟨cH0, cH1, cH2⟩ := CH.out.cells3
      have ltH := CH.out.lt
      go_wp2_with fail
      refine (of_c _ 1 1001 (by omega) (by omega) (by omega) (by omega)).mono ?_
      rw [w_1001]
      rintro e w37 ⟨v, rfl, hv, hb37⟩
      have hv : IsF _ v (fr false 1 1001) := hv
      obtain ⟨va, vb, rfl, h1, h2⟩ := hv
      obtain ⟨pd, md, rfl, _, _⟩ := h1.shape
      obtain ⟨qd, nd, rfl, _, _⟩ := h2.shape
      have Fd := Lib.hid (IsF.at_ h1 h2)
      clear h1 h2
      clear cH0 cH1 cH2 ltH
      replace CH := Lib.hid (CH.out.after hb37)
      replace FH := Lib.hid (FH.out.after hb37)
      replace Fa := Lib.hid (Fa.out.after hb37)
      replace Fb := Lib.hid (Fb.out.after hb37)
      replace hvT := Lib.hid (hvT.out.after hb37)
      replace hvZ := Lib.hid (hvZ.out.after hb37)
      replace HB := Lib.hid (HB.out.trans (hb37.mono HB.out.size))
      clear hb37
      go_wp2_with fail
      have hS := SlF.three w37 Fa.out Fb.out Fd.out rfl 25
      obtain ⟨wl, hw⟩ : ∃ wl, wl = w37.alloc (.cells #[.bool (fr true 1 2).neg, .slice pa (fr true 1 2).num.length ma, .slice qa (fr true 1 2).den.length na, .bool (fr false 3 2).neg, .slice pb (fr false 3 2).num.length mb, .slice qb (fr false 3 2).den.length nb, .bool (fr false 1 1001).neg, .slice pd (fr false 1 1001).num.length md, .slice qd (fr false 1 1001).den.length nd] 25) := ⟨_, rfl⟩
      have hbl2 := (after_new (below_same hw)).1
      rw [← hw] at hS ⊢
      clear hw
      have VH : Hid (VarF wl (w3.heap.size) (fr false 1 2)) := (VarF.of CH.out FH.out).after hbl2
      have VT := Lib.hid (hvT.out.after hbl2)
      have VZ := Lib.hid (hvZ.out.after hbl2)
      replace HB := Lib.hid (HB.out.trans (hbl2.mono HB.out.size))
      have HS := Lib.hid hS
      clear hS hvT hvZ CH FH Fa Fb Fd hbl2
      go_loopg [152] 3 (fun g t wx => ∃ i : Nat, i ≤ 3 ∧ g = 3 - i ∧ t = .int .i64 (i : Int) ∧ Hid (SlF wx (.slice (some ⟨w37.heap.size, 0, none⟩) 3 3) [fr true 1 2, fr false 3 2, fr false 1 1001]) ∧ Hid (VarF wx (w3.heap.size) (fr false 1 2)) ∧ Hid (VarF wx (w3.heap.size + 1) (fr false 1 3)) ∧ Hid (VarF wx (w3.heap.size + 1 + 1) (fr false 0 1)) ∧ Hid (Below w.heap.size w wx))
      case atStart => exact ⟨0, Nat.zero_le _, rfl, rfl, HS.out, VH.out, VT.out, VZ.out, HB.out⟩
      case round =>
        obtain ⟨i, hi4, rfl, rfl, hsl, hvH, hvT, hvZ, hbl⟩ := hrel
        clear VH VT VZ HS HB
        have HB := hbl
        clear hbl
        by_cases hlt : i < 3
        · obtain ⟨x, hx, hr⟩ := bad_rates hlt
          obtain ⟨va, vb, hc0, hc1, hc2, s1, s2⟩ := hsl.out.has hx
          obtain ⟨pv, mv, rfl, _, _⟩ := s1.shape
          obtain ⟨qv, nv, rfl, _, _⟩ := s2.shape
          have Fv := Lib.hid (IsF.at_ s1 s2)
          have hlx := hsl.out.lt (by simp)
          have hi0 : (0 : Int) ≤ (i : Int) := Int.natCast_nonneg _
          have hi5 : (i : Int) < 3 := by omega
          have HE1 : Hid (exactlyF 5 2 x = (F0, 2)) := exactlyF_err hr (by omega)
          have HT1 : Hid (tailF 5 2 x = (F0, 2)) := tailF_err hr (by omega)
          have HU1 : Hid (∀ r, critF 5 x (fr false 1 2) r → r = (0, 2)) := fun r h => crit_rate hr h
          clear s1 s2 hx hr
          obtain ⟨va, vb, hbx, h1, h2⟩ := hvH.out
          obtain ⟨pH, mH, rfl, _, _⟩ := h1.shape
          obtain ⟨qH, nH, rfl, _, _⟩ := h2.shape
          have CH := Lib.hid hbx
          have FH := Lib.hid (IsF.at_ h1 h2)
          clear hbx h1 h2
          clear hvH
          have d_H_v : w3.heap.size < wr.heap.size := CH.out.lt
          have g_v : w.heap.size ≤ wr.heap.size := by have := HB.out.size; omega
          obtain ⟨cH0, cH1, cH2⟩ := CH.out.cells3
          have ltH := CH.out.lt
          go_wp2_with fail
          refine (tExactly_c _ 5 2 _ _ (Fv.out.alloc _)).mono ?_
          rw [HE1.out]
          rintro e w41 ⟨v, rfl, hv, hb41⟩
          have hv : IsF _ v (F0) := hv
          obtain ⟨va, vb, rfl, h1, h2⟩ := hv
          obtain ⟨pe1, me1, rfl, _, _⟩ := h1.shape
          obtain ⟨qe1, ne1, rfl, _, _⟩ := h2.shape
          have Fe1 := Lib.hid (IsF.at_ h1 h2)
          clear h1 h2
          clear cH0 cH1 cH2 ltH
          obtain ⟨hb41, Cv⟩ := after_new hb41
          replace Cv := Lib.hid Cv
          replace CH := Lib.hid (CH.out.after hb41)
          replace Fv := Lib.hid (Fv.out.after hb41)
          replace FH := Lib.hid (FH.out.after hb41)
          replace hsl := Lib.hid (hsl.out.after hb41)
          replace hvT := Lib.hid (hvT.out.after hb41)
          replace hvZ := Lib.hid (hvZ.out.after hb41)
          replace HB := Lib.hid (HB.out.trans (hb41.mono HB.out.size))
          clear hb41
          have d_H_e1 : w3.heap.size < w41.heap.size := CH.out.lt
          have d_v_e1 : wr.heap.size < w41.heap.size := Cv.out.lt
          have g_e1 : w.heap.size ≤ w41.heap.size := by have := HB.out.size; omega
          obtain ⟨cH0, cH1, cH2⟩ := CH.out.cells3
          have ltH := CH.out.lt
          obtain ⟨cv0, cv1, cv2⟩ := Cv.out.cells3
          have ltv := Cv.out.lt
          go_wp2_with fail
          refine (tTail_c _ 5 2 _ _ (Fv.out.alloc _)).mono ?_
          rw [HT1.out]
          rintro e w42 ⟨v, rfl, hv, hb42⟩
          have hv : IsF _ v (F0) := hv
          obtain ⟨va, vb, rfl, h1, h2⟩ := hv
          obtain ⟨pe2, me2, rfl, _, _⟩ := h1.shape
          obtain ⟨qe2, ne2, rfl, _, _⟩ := h2.shape
          have Fe2 := Lib.hid (IsF.at_ h1 h2)
          clear h1 h2
          clear cH0 cH1 cH2 ltH cv0 cv1 cv2 ltv
          obtain ⟨hb42, Ce1⟩ := after_new hb42
          replace Ce1 := Lib.hid Ce1
          replace CH := Lib.hid (CH.out.after hb42)
          replace Cv := Lib.hid (Cv.out.after hb42)
          replace Fv := Lib.hid (Fv.out.after hb42)
          replace FH := Lib.hid (FH.out.after hb42)
          replace Fe1 := Lib.hid (Fe1.out.after hb42)
          replace hsl := Lib.hid (hsl.out.after hb42)
          replace hvT := Lib.hid (hvT.out.after hb42)
          replace hvZ := Lib.hid (hvZ.out.after hb42)
          replace HB := Lib.hid (HB.out.trans (hb42.mono HB.out.size))
          clear hb42
          clear Fe1 Ce1
          have d_H_e2 : w3.heap.size < w42.heap.size := CH.out.lt
          have d_v_e2 : wr.heap.size < w42.heap.size := Cv.out.lt
          have g_e2 : w.heap.size ≤ w42.heap.size := by have := HB.out.size; omega
          obtain ⟨cH0, cH1, cH2⟩ := CH.out.cells3
          have ltH := CH.out.lt
          obtain ⟨cv0, cv1, cv2⟩ := Cv.out.cells3
          have ltv := Cv.out.lt
          go_wp2_with fail
          refine (tCritical_c _ 5 _ _ _ _ (Fv.out.alloc _) (FH.out.alloc _)).mono ?_
          rintro e w43 ⟨ru, rfl, hru, hb43⟩
          clear cH0 cH1 cH2 ltH cv0 cv1 cv2 ltv
          obtain ⟨hb43, Ce2⟩ := after_new hb43
          replace Ce2 := Lib.hid Ce2
          replace CH := Lib.hid (CH.out.after hb43)
          replace Cv := Lib.hid (Cv.out.after hb43)
          replace Fv := Lib.hid (Fv.out.after hb43)
          replace FH := Lib.hid (FH.out.after hb43)
          replace Fe2 := Lib.hid (Fe2.out.after hb43)
          replace hsl := Lib.hid (hsl.out.after hb43)
          replace hvT := Lib.hid (hvT.out.after hb43)
          replace hvZ := Lib.hid (hvZ.out.after hb43)
          replace HB := Lib.hid (HB.out.trans (hb43.mono HB.out.size))
          clear hb43
          obtain rfl := HU1.out _ hru
          clear hru
          clear Fe2 Ce2 Fv Cv
          go_wp2_with fail
          go_roundg (3 - (i + 1))
          case measure => omega
          case rel => exact ⟨i + 1, by omega, rfl, by go_num, hsl.out, VarF.of CH.out FH.out, hvT.out, hvZ.out, HB.out⟩
        · obtain rfl : i = 3 := by omega
          clear hsl
          go_wp2_with fail
          obtain ⟨wm, hbm, hS, hw⟩ := two_odd wr
          rw [← hw]
          clear hw
          have VH := Lib.hid (hvH.out.after hbm)
          have VT := Lib.hid (hvT.out.after hbm)
          have VZ := Lib.hid (hvZ.out.after hbm)
          replace HB := Lib.hid (HB.out.trans (hbm.mono HB.out.size))
          have HS := Lib.hid hS
          clear hS hvH hvT hvZ hbm
          go_loopg [189] 2 (fun g t wx => ∃ i : Nat, i ≤ 2 ∧ g = 2 - i ∧ t = .int .i64 (i : Int) ∧ Hid (SlF wx (.slice (some ⟨wr.heap.size + 1 + 1, 0, none⟩) 2 2) [F0, fr false 2 4]) ∧ Hid (VarF wx (w3.heap.size) (fr false 1 2)) ∧ Hid (VarF wx (w3.heap.size + 1) (fr false 1 3)) ∧ Hid (VarF wx (w3.heap.size + 1 + 1) (fr false 0 1)) ∧ Hid (Below w.heap.size w wx))
          case atStart => exact ⟨0, Nat.zero_le _, rfl, rfl, HS.out, VH.out, VT.out, VZ.out, HB.out⟩
          case round =>
            obtain ⟨i, hi4, rfl, rfl, hsl, hvH, hvT, hvZ, hbl⟩ := hrel
            clear VH VT VZ HS HB
            have HB := hbl
            clear hbl
            by_cases hlt : i < 2
            · obtain ⟨x, hx, hr, hf⟩ := odd_rates hlt
              obtain ⟨va, vb, hc0, hc1, hc2, s1, s2⟩ := hsl.out.has hx
              obtain ⟨pv, mv, rfl, _, _⟩ := s1.shape
              obtain ⟨qv, nv, rfl, _, _⟩ := s2.shape
              have Fv := Lib.hid (IsF.at_ s1 s2)
              have hlx := hsl.out.lt (by simp)
              have hi0 : (0 : Int) ≤ (i : Int) := Int.natCast_nonneg _
              have hi5 : (i : Int) < 2 := by omega
              have HE1 : Hid (exactlyF (-1) 0 x = (F0, 1)) := exactlyF_err hr (by omega)
              have HT1 : Hid (tailF (-1) 0 x = (F0, 1)) := tailF_err hr (by omega)
              have HU1 : Hid (∀ r, critF (-1) x (fr false 3 2) r → r = (0, 1)) := fun r h => crit_odd1 hr h
              have HU2 : Hid (∀ r, critF (-1) (fr false 3 2) x r → r = (0, 1)) := fun r h => crit_odd2 hf h
              have HU3 : Hid (∀ r, upperF (-1) 0 x 0 r → r = (0, 1)) := fun r h => upperF_err hf (by omega) h
              clear s1 s2 hx hr hf
              have g_v : w.heap.size ≤ wr.heap.size := by have := HB.out.size; omega
              go_wp2_with fail
              refine (tExactly_c _ (-1) 0 _ _ (Fv.out.alloc _)).mono ?_
              rw [HE1.out]
              rintro e w71 ⟨v, rfl, hv, hb71⟩
              have hv : IsF _ v (F0) := hv
              obtain ⟨va, vb, rfl, h1, h2⟩ := hv
              obtain ⟨pe1, me1, rfl, _, _⟩ := h1.shape
              obtain ⟨qe1, ne1, rfl, _, _⟩ := h2.shape
              have Fe1 := Lib.hid (IsF.at_ h1 h2)
              clear h1 h2
              obtain ⟨hb71, Cv⟩ := after_new hb71
              replace Cv := Lib.hid Cv
              replace Fv := Lib.hid (Fv.out.after hb71)
              replace hsl := Lib.hid (hsl.out.after hb71)
              replace hvH := Lib.hid (hvH.out.after hb71)
              replace hvT := Lib.hid (hvT.out.after hb71)
              replace hvZ := Lib.hid (hvZ.out.after hb71)
              replace HB := Lib.hid (HB.out.trans (hb71.mono HB.out.size))
              clear hb71
              have d_v_e1 : wr.heap.size < w71.heap.size := Cv.out.lt
              have g_e1 : w.heap.size ≤ w71.heap.size := by have := HB.out.size; omega
              obtain ⟨cv0, cv1, cv2⟩ := Cv.out.cells3
              have ltv := Cv.out.lt
              go_wp2_with fail
              refine (tTail_c _ (-1) 0 _ _ (Fv.out.alloc _)).mono ?_
              rw [HT1.out]
              rintro e w72 ⟨v, rfl, hv, hb72⟩
              have hv : IsF _ v (F0) := hv
              obtain ⟨va, vb, rfl, h1, h2⟩ := hv
              obtain ⟨pe2, me2, rfl, _, _⟩ := h1.shape
              obtain ⟨qe2, ne2, rfl, _, _⟩ := h2.shape
              have Fe2 := Lib.hid (IsF.at_ h1 h2)
              clear h1 h2
              clear cv0 cv1 cv2 ltv
              obtain ⟨hb72, Ce1⟩ := after_new hb72
              replace Ce1 := Lib.hid Ce1
              replace Cv := Lib.hid (Cv.out.after hb72)
              replace Fv := Lib.hid (Fv.out.after hb72)
              replace Fe1 := Lib.hid (Fe1.out.after hb72)
              replace hsl := Lib.hid (hsl.out.after hb72)
              replace hvH := Lib.hid (hvH.out.after hb72)
              replace hvT := Lib.hid (hvT.out.after hb72)
              replace hvZ := Lib.hid (hvZ.out.after hb72)
              replace HB := Lib.hid (HB.out.trans (hb72.mono HB.out.size))
              clear hb72
              clear Fe1 Ce1
              have d_v_e2 : wr.heap.size < w72.heap.size := Cv.out.lt
              have g_e2 : w.heap.size ≤ w72.heap.size := by have := HB.out.size; omega
              obtain ⟨cv0, cv1, cv2⟩ := Cv.out.cells3
              have ltv := Cv.out.lt
              go_upto_region 31 with fail
              obtain ⟨w75, hw⟩ : ∃ w75, w75 = w72.alloc (.cells #[.bool (F0).neg, .slice pe2 (F0).num.length me2, .slice qe2 (F0).den.length ne2] 25) := ⟨_, rfl⟩
              have hb := below_same hw
              rw [← hw]
              clear hw
              obtain ⟨hb, Ce2⟩ := after_new hb
              replace Ce2 := Lib.hid Ce2
              replace Cv := Lib.hid (Cv.out.after hb)
              replace Fv := Lib.hid (Fv.out.after hb)
              replace Fe2 := Lib.hid (Fe2.out.after hb)
              replace hsl := Lib.hid (hsl.out.after hb)
              replace hvH := Lib.hid (hvH.out.after hb)
              replace hvT := Lib.hid (hvT.out.after hb)
              replace hvZ := Lib.hid (hvZ.out.after hb)
              replace HB := Lib.hid (HB.out.trans (hb.mono HB.out.size))
              clear hb
              clear cv0 cv1 cv2 ltv
              clear Fe2 Ce2
              have mkS : Hid (∀ w', Below w75.heap.size w75 w' → (w'.cell? ⟨wr.heap.size, 0, none⟩ = some (.bool (x).neg) ∧ w'.cell? ⟨wr.heap.size, 1, none⟩ = some (.slice pv (x).num.length mv) ∧ w'.cell? ⟨wr.heap.size, 2, none⟩ = some (.slice qv (x).den.length nv))) := fun w' hb => (Cv.out.after hb).cells3
              go_region_held3 (fun w' => (w'.cell? ⟨wr.heap.size, 0, none⟩ = some (.bool (x).neg) ∧ w'.cell? ⟨wr.heap.size, 1, none⟩ = some (.slice pv (x).num.length mv) ∧ w'.cell? ⟨wr.heap.size, 2, none⟩ = some (.slice qv (x).den.length nv)))
                (first | (refine mkS.out _ ?_; (repeat (first | with_reducible exact hk2 | with_reducible exact hk1 | with_reducible exact Below.refl _ _ | with_reducible refine below_dr ?_)); done))
                (first
                 | (go_at_call 26; refine (of_c _ (3) (2) (by omega) (by omega) (by omega) (by omega)).mono ?_; rw [w_32h]; rintro e wa ⟨v, rfl, hv, hb⟩; have hk1 := below_of_drew hb; clear hb)
                 | (go_at_call 21; refine (tCritical_c _ (-1) _ _ (x) (fr false 3 2) (Fv.out.after hk1) hv).mono ?_; rintro e w76 ⟨ru, rfl, hru, hb⟩; obtain rfl := HU1.out _ hru; have hk2 := hk1.trans (hb.mono hk1.size); clear hb hv hru))
              clear hk1 mkS
              replace Cv := Lib.hid (Cv.out.after hk2)
              replace Fv := Lib.hid (Fv.out.after hk2)
              replace hsl := Lib.hid (hsl.out.after hk2)
              replace hvH := Lib.hid (hvH.out.after hk2)
              replace hvT := Lib.hid (hvT.out.after hk2)
              replace hvZ := Lib.hid (hvZ.out.after hk2)
              replace HB := Lib.hid (HB.out.trans (hk2.mono HB.out.size))
              clear hk2
              go_upto_region 32 with fail
              have mkS : Hid (∀ w', Below w76.heap.size w76 w' → (w'.cell? ⟨wr.heap.size, 0, none⟩ = some (.bool (x).neg) ∧ w'.cell? ⟨wr.heap.size, 1, none⟩ = some (.slice pv (x).num.length mv) ∧ w'.cell? ⟨wr.heap.size, 2, none⟩ = some (.slice qv (x).den.length nv))) := fun w' hb => (Cv.out.after hb).cells3
              go_region_held3 (fun w' => (w'.cell? ⟨wr.heap.size, 0, none⟩ = some (.bool (x).neg) ∧ w'.cell? ⟨wr.heap.size, 1, none⟩ = some (.slice pv (x).num.length mv) ∧ w'.cell? ⟨wr.heap.size, 2, none⟩ = some (.slice qv (x).den.length nv)))
                (first | (refine mkS.out _ ?_; (repeat (first | with_reducible exact hk2 | with_reducible exact hk1 | with_reducible exact Below.refl _ _ | with_reducible refine below_dr ?_)); done))
                (first
                 | (go_at_call 26; refine (of_c _ (3) (2) (by omega) (by omega) (by omega) (by omega)).mono ?_; rw [w_32h]; rintro e wa ⟨v, rfl, hv, hb⟩; have hk1 := below_of_drew hb; clear hb)
                 | (go_at_call 21; refine (tCritical_c _ (-1) _ _ (fr false 3 2) (x) hv (Fv.out.after hk1)).mono ?_; rintro e w77 ⟨ru, rfl, hru, hb⟩; obtain rfl := HU2.out _ hru; have hk2 := hk1.trans (hb.mono hk1.size); clear hb hv hru))
              clear hk1 mkS
              replace Cv := Lib.hid (Cv.out.after hk2)
              replace Fv := Lib.hid (Fv.out.after hk2)
              replace hsl := Lib.hid (hsl.out.after hk2)
              replace hvH := Lib.hid (hvH.out.after hk2)
              replace hvT := Lib.hid (hvT.out.after hk2)
              replace hvZ := Lib.hid (hvZ.out.after hk2)
              replace HB := Lib.hid (HB.out.trans (hk2.mono HB.out.size))
              clear hk2
              obtain ⟨cv0, cv1, cv2⟩ := Cv.out.cells3
              have ltv := Cv.out.lt
              go_wp2_with fail
              refine (tUpper_c _ (-1) 0 0 _ _ Fv.out).mono ?_
              rintro e w78 ⟨ru, rfl, hru, hb78⟩
              clear cv0 cv1 cv2 ltv
              replace Cv := Lib.hid (Cv.out.after hb78)
              replace Fv := Lib.hid (Fv.out.after hb78)
              replace hsl := Lib.hid (hsl.out.after hb78)
              replace hvH := Lib.hid (hvH.out.after hb78)
              replace hvT := Lib.hid (hvT.out.after hb78)
              replace hvZ := Lib.hid (hvZ.out.after hb78)
              replace HB := Lib.hid (HB.out.trans (hb78.mono HB.out.size))
              clear hb78
              obtain rfl := HU3.out _ hru
              clear hru
              clear Fv Cv
              go_wp2_with fail
              go_roundg (2 - (i + 1))
              case measure => omega
              case rel => exact ⟨i + 1, by omega, rfl, by go_num, hsl.out, hvH.out, hvT.out, hvZ.out, HB.out⟩
            · obtain rfl : i = 2 := by omega
              clear hsl
              obtain ⟨va, vb, hbx, h1, h2⟩ := hvH.out
              obtain ⟨pH, mH, rfl, _, _⟩ := h1.shape
              obtain ⟨qH, nH, rfl, _, _⟩ := h2.shape
              have CH := Lib.hid hbx
              have FH := Lib.hid (IsF.at_ h1 h2)
              clear hbx h1 h2
              clear hvH
              obtain ⟨cH0, cH1, cH2⟩ := CH.out.cells3
              have ltH := CH.out.lt
              go_wp2_with fail
              refine (tCritical_c _ (65) _ _ _ _ FH.out FH.out).mono ?_
              rintro e w101 ⟨ru, rfl, hru, hb101⟩
              clear cH0 cH1 cH2 ltH
              replace CH := Lib.hid (CH.out.after hb101)
              replace FH := Lib.hid (FH.out.after hb101)
              replace hvT := Lib.hid (hvT.out.after hb101)
              replace hvZ := Lib.hid (hvZ.out.after hb101)
              replace HB := Lib.hid (HB.out.trans (hb101.mono HB.out.size))
              clear hb101
              obtain rfl := kk_c65 hru
              clear hru
              go_upto_region 38 with fail
              have mkS : Hid (∀ w', Below w101.heap.size w101 w' → (w'.cell? ⟨w3.heap.size, 0, none⟩ = some (.bool (fr false 1 2).neg) ∧ w'.cell? ⟨w3.heap.size, 1, none⟩ = some (.slice pH (fr false 1 2).num.length mH) ∧ w'.cell? ⟨w3.heap.size, 2, none⟩ = some (.slice qH (fr false 1 2).den.length nH))) := fun w' hb => (CH.out.after hb).cells3
              go_region_held3 (fun w' => (w'.cell? ⟨w3.heap.size, 0, none⟩ = some (.bool (fr false 1 2).neg) ∧ w'.cell? ⟨w3.heap.size, 1, none⟩ = some (.slice pH (fr false 1 2).num.length mH) ∧ w'.cell? ⟨w3.heap.size, 2, none⟩ = some (.slice qH (fr false 1 2).den.length nH)))
                (first | (refine mkS.out _ ?_; (repeat (first | with_reducible exact hk2 | with_reducible exact hk1 | with_reducible exact Below.refl _ _ | with_reducible refine below_dr ?_)); done))
                (first
                 | (go_at_call 26; refine (of_c _ (3) (2) (by omega) (by omega) (by omega) (by omega)).mono ?_; rw [w_32h]; rintro e wa ⟨v, rfl, hv, hb⟩; have hk1 := below_of_drew hb; clear hb)
                 | (go_at_call 21; refine (tCritical_c _ (5) _ _ (fr false 1 2) (fr false 3 2) (FH.out.after hk1) hv).mono ?_; rintro e w110 ⟨ru, rfl, hru, hb⟩; obtain rfl := kk_c5 hru; have hk2 := hk1.trans (hb.mono hk1.size); clear hb hv hru))
              clear hk1 mkS
              replace CH := Lib.hid (CH.out.after hk2)
              replace FH := Lib.hid (FH.out.after hk2)
              replace hvT := Lib.hid (hvT.out.after hk2)
              replace hvZ := Lib.hid (hvZ.out.after hk2)
              replace HB := Lib.hid (HB.out.trans (hk2.mono HB.out.size))
              clear hk2
              obtain ⟨cH0, cH1, cH2⟩ := CH.out.cells3
              have ltH := CH.out.lt
              go_wp2_with fail
              refine (of_c _ (-1) 2 (by omega) (by omega) (by omega) (by omega)).mono ?_
              rw [w_m12]
              rintro e w111 ⟨v, rfl, hv, hb111⟩
              have hv : IsF _ v (fr true 1 2) := hv
              obtain ⟨va, vb, rfl, h1, h2⟩ := hv
              obtain ⟨pa, ma, rfl, _, _⟩ := h1.shape
              obtain ⟨qa, na, rfl, _, _⟩ := h2.shape
              have Fa := Lib.hid (IsF.at_ h1 h2)
              clear h1 h2
              clear cH0 cH1 cH2 ltH
              replace CH := Lib.hid (CH.out.after hb111)
              replace FH := Lib.hid (FH.out.after hb111)
              replace hvT := Lib.hid (hvT.out.after hb111)
              replace hvZ := Lib.hid (hvZ.out.after hb111)
              replace HB := Lib.hid (HB.out.trans (hb111.mono HB.out.size))
              clear hb111
              obtain ⟨cH0, cH1, cH2⟩ := CH.out.cells3
              have ltH := CH.out.lt
              go_wp2_with fail
              refine (tUpper_c _ 5 1 10 _ _ Fa.out).mono ?_
              rintro e w112 ⟨ru, rfl, hru, hb112⟩
              clear cH0 cH1 cH2 ltH
              replace CH := Lib.hid (CH.out.after hb112)
              replace FH := Lib.hid (FH.out.after hb112)
              replace Fa := Lib.hid (Fa.out.after hb112)
              replace hvT := Lib.hid (hvT.out.after hb112)
              replace hvZ := Lib.hid (hvZ.out.after hb112)
              replace HB := Lib.hid (HB.out.trans (hb112.mono HB.out.size))
              clear hb112
              obtain rfl := kk_u1 hru
              clear hru
              clear Fa
              obtain ⟨cH0, cH1, cH2⟩ := CH.out.cells3
              have ltH := CH.out.lt
              go_wp2_with fail
              refine (tUpper_c _ 5 1 0 _ _ FH.out).mono ?_
              rintro e w113 ⟨ru, rfl, hru, hb113⟩
              clear cH0 cH1 cH2 ltH
              replace CH := Lib.hid (CH.out.after hb113)
              replace FH := Lib.hid (FH.out.after hb113)
              replace hvT := Lib.hid (hvT.out.after hb113)
              replace hvZ := Lib.hid (hvZ.out.after hb113)
              replace HB := Lib.hid (HB.out.trans (hb113.mono HB.out.size))
              clear hb113
              obtain rfl := kk_u2 hru
              clear hru
              obtain ⟨cH0, cH1, cH2⟩ := CH.out.cells3
              have ltH := CH.out.lt
              go_wp2_with fail
              refine (tUpper_c _ 5 1 1001 _ _ FH.out).mono ?_
              rintro e w114 ⟨ru, rfl, hru, hb114⟩
              clear cH0 cH1 cH2 ltH
              replace CH := Lib.hid (CH.out.after hb114)
              replace FH := Lib.hid (FH.out.after hb114)
              replace hvT := Lib.hid (hvT.out.after hb114)
              replace hvZ := Lib.hid (hvZ.out.after hb114)
              replace HB := Lib.hid (HB.out.trans (hb114.mono HB.out.size))
              clear hb114
              obtain rfl := kk_u3 hru
              clear hru
              go_wp2_with fail
              obtain ⟨wl, hw⟩ : ∃ wl, wl = w114.alloc (.cells #[.int .i64 0, .int .i64 0, .int .i64 4, .int .i64 9] 56) := ⟨_, rfl⟩
              obtain ⟨hbl2, CY⟩ := after_new (below_same hw)
              rw [← hw]
              clear hw
              have VH : Hid (VarF wl (w3.heap.size) (fr false 1 2)) := (VarF.of CH.out FH.out).after hbl2
              have VT := Lib.hid (hvT.out.after hbl2)
              have VZ := Lib.hid (hvZ.out.after hbl2)
              replace HB := Lib.hid (HB.out.trans (hbl2.mono HB.out.size))
              have CY2 := Lib.hid CY
              clear CY hvT hvZ CH FH hbl2
              go_loopg [288] 2 (fun g t wx => ∃ i : Nat, i ≤ 2 ∧ g = 2 - i ∧ t = .int .i64 (i : Int) ∧ Hid (Box wx (w114.heap.size) #[.int .i64 0, .int .i64 0, .int .i64 4, .int .i64 9] 56) ∧ Hid (VarF wx (w3.heap.size) (fr false 1 2)) ∧ Hid (VarF wx (w3.heap.size + 1) (fr false 1 3)) ∧ Hid (VarF wx (w3.heap.size + 1 + 1) (fr false 0 1)) ∧ Hid (Below w.heap.size w wx))
              case atStart => exact ⟨0, Nat.zero_le _, rfl, rfl, CY2.out, VH.out, VT.out, VZ.out, HB.out⟩
              case round =>
                obtain ⟨i, hi4, rfl, rfl, hbx, hvH, hvT, hvZ, hbl⟩ := hrel
                clear VH VT VZ CY2 HB
                have HB := hbl
                clear hbl
                by_cases hlt : i < 2
                · obtain ⟨x0, x1, hc0, hc1, hu⟩ := ups_at hbx.out hlt
                  have hi0 : (0 : Int) ≤ (i : Int) := Int.natCast_nonneg _
                  have hi5 : (i : Int) < 2 := by omega
                  have HU1 : Hid (∀ r, upperF 4 x0 (fr false 1 2) 10 r → r = (x1, 0)) := fun r h => hu h
                  clear hu
                  obtain ⟨va, vb, hbx, h1, h2⟩ := hvH.out
                  obtain ⟨pH, mH, rfl, _, _⟩ := h1.shape
                  obtain ⟨qH, nH, rfl, _, _⟩ := h2.shape
                  have CH := Lib.hid hbx
                  have FH := Lib.hid (IsF.at_ h1 h2)
                  clear hbx h1 h2
                  clear hvH
                  have hcx := hbx.out.lt
                  have d_H_Y : w3.heap.size < wr.heap.size := CH.out.lt
                  have g_Y : w.heap.size ≤ wr.heap.size := by have := HB.out.size; omega
                  obtain ⟨cH0, cH1, cH2⟩ := CH.out.cells3
                  have ltH := CH.out.lt
                  go_wp2_with fail
                  refine (tUpper_c _ 4 x0 10 _ _ (FH.out.alloc _)).mono ?_
                  rintro e w131 ⟨ru, rfl, hru, hb131⟩
                  clear cH0 cH1 cH2 ltH
                  obtain ⟨hb131, CY⟩ := after_new hb131
                  replace CY := Lib.hid CY
                  replace CH := Lib.hid (CH.out.after hb131)
                  replace FH := Lib.hid (FH.out.after hb131)
                  replace hbx := Lib.hid (hbx.out.after hb131)
                  replace hvT := Lib.hid (hvT.out.after hb131)
                  replace hvZ := Lib.hid (hvZ.out.after hb131)
                  replace HB := Lib.hid (HB.out.trans (hb131.mono HB.out.size))
                  clear hb131
                  obtain rfl := HU1.out _ hru
                  clear hru
                  obtain ⟨cH0, cH1, cH2⟩ := CH.out.cells3
                  have ltH := CH.out.lt
                  obtain ⟨cY0, cY1⟩ := CY.out.cells2
                  have ltY := CY.out.lt
                  go_wp2_with fail
                  go_roundg (2 - (i + 1))
                  case measure => omega
                  case rel => exact ⟨i + 1, by omega, rfl, by go_num, hbx.out, VarF.of CH.out FH.out, hvT.out, hvZ.out, HB.out⟩
                · obtain rfl : i = 2 := by omega
                  clear hbx
                  obtain ⟨va, vb, hbx, h1, h2⟩ := hvH.out
                  obtain ⟨pH, mH, rfl, _, _⟩ := h1.shape
                  obtain ⟨qH, nH, rfl, _, _⟩ := h2.shape
                  have CH := Lib.hid hbx
                  have FH := Lib.hid (IsF.at_ h1 h2)
                  clear hbx h1 h2
                  obtain ⟨va, vb, hbx, h1, h2⟩ := hvT.out
                  obtain ⟨pT, mT, rfl, _, _⟩ := h1.shape
                  obtain ⟨qT, nT, rfl, _, _⟩ := h2.shape
                  have CT := Lib.hid hbx
                  have FT := Lib.hid (IsF.at_ h1 h2)
                  clear hbx h1 h2
                  obtain ⟨va, vb, hbx, h1, h2⟩ := hvZ.out
                  obtain ⟨pZ, mZ, rfl, _, _⟩ := h1.shape
                  obtain ⟨qZ, nZ, rfl, _, _⟩ := h2.shape
                  have CZ := Lib.hid hbx
                  have FZ := Lib.hid (IsF.at_ h1 h2)
                  clear hbx h1 h2
                  clear hvH hvT hvZ
                  obtain ⟨cH0, cH1, cH2⟩ := CH.out.cells3
                  have ltH := CH.out.lt
                  obtain ⟨cT0, cT1, cT2⟩ := CT.out.cells3
                  have ltT := CT.out.lt
                  obtain ⟨cZ0, cZ1, cZ2⟩ := CZ.out.cells3
                  have ltZ := CZ.out.lt
                  go_wp2_with fail
                  refine (tUpper_c _ 4 5 10 _ _ FZ.out).mono ?_
                  rintro e w151 ⟨ru, rfl, hru, hb151⟩
                  clear cH0 cH1 cH2 ltH cT0 cT1 cT2 ltT cZ0 cZ1 cZ2 ltZ
                  replace CH := Lib.hid (CH.out.after hb151)
                  replace CT := Lib.hid (CT.out.after hb151)
                  replace CZ := Lib.hid (CZ.out.after hb151)
                  replace FH := Lib.hid (FH.out.after hb151)
                  replace FT := Lib.hid (FT.out.after hb151)
                  replace FZ := Lib.hid (FZ.out.after hb151)
                  replace HB := Lib.hid (HB.out.trans (hb151.mono HB.out.size))
                  clear hb151
                  obtain rfl := k_up5 hru
                  clear hru
                  go_upto_region 52 with fail
                  have mkS : Hid (∀ w', Below w151.heap.size w151 w' → (w'.cell? ⟨w3.heap.size + 1, 0, none⟩ = some (.bool (fr false 1 3).neg) ∧ w'.cell? ⟨w3.heap.size + 1, 1, none⟩ = some (.slice pT (fr false 1 3).num.length mT) ∧ w'.cell? ⟨w3.heap.size + 1, 2, none⟩ = some (.slice qT (fr false 1 3).den.length nT))) := fun w' hb => (CT.out.after hb).cells3
                  go_region_held3 (fun w' => (w'.cell? ⟨w3.heap.size + 1, 0, none⟩ = some (.bool (fr false 1 3).neg) ∧ w'.cell? ⟨w3.heap.size + 1, 1, none⟩ = some (.slice pT (fr false 1 3).num.length mT) ∧ w'.cell? ⟨w3.heap.size + 1, 2, none⟩ = some (.slice qT (fr false 1 3).den.length nT)))
                    (first | (refine mkS.out _ ?_; (repeat (first | with_reducible exact hk2 | with_reducible exact hk1 | with_reducible exact Below.refl _ _ | with_reducible refine below_dr ?_)); done))
                    (first
                     | (go_at_call 26; refine (of_c _ (1) (81) (by omega) (by omega) (by omega) (by omega)).mono ?_; rw [w_181]; rintro e wa ⟨v, rfl, hv, hb⟩; have hk1 := below_of_drew hb; clear hb)
                     | (go_at_call 21; refine (tCritical_c _ (4) _ _ (fr false 1 3) (fr false 1 81) (FT.out.after hk1) hv).mono ?_; rintro e w160 ⟨ru, rfl, hru, hb⟩; obtain rfl := k_crit4 hru; have hk2 := hk1.trans (hb.mono hk1.size); clear hb hv hru))
                  clear hk1 mkS
                  replace CH := Lib.hid (CH.out.after hk2)
                  replace CT := Lib.hid (CT.out.after hk2)
                  replace CZ := Lib.hid (CZ.out.after hk2)
                  replace FH := Lib.hid (FH.out.after hk2)
                  replace FT := Lib.hid (FT.out.after hk2)
                  replace FZ := Lib.hid (FZ.out.after hk2)
                  replace HB := Lib.hid (HB.out.trans (hk2.mono HB.out.size))
                  clear hk2
                  obtain ⟨cH0, cH1, cH2⟩ := CH.out.cells3
                  have ltH := CH.out.lt
                  obtain ⟨cT0, cT1, cT2⟩ := CT.out.cells3
                  have ltT := CT.out.lt
                  obtain ⟨cZ0, cZ1, cZ2⟩ := CZ.out.cells3
                  have ltZ := CZ.out.lt
                  go_wp2_with fail
                  refine (tCritical_c _ (4) _ _ _ _ FT.out FZ.out).mono ?_
                  rintro e w161 ⟨ru, rfl, hru, hb161⟩
                  clear cH0 cH1 cH2 ltH cT0 cT1 cT2 ltT cZ0 cZ1 cZ2 ltZ
                  replace CH := Lib.hid (CH.out.after hb161)
                  replace CT := Lib.hid (CT.out.after hb161)
                  replace CZ := Lib.hid (CZ.out.after hb161)
                  replace FH := Lib.hid (FH.out.after hb161)
                  replace FT := Lib.hid (FT.out.after hb161)
                  replace FZ := Lib.hid (FZ.out.after hb161)
                  replace HB := Lib.hid (HB.out.trans (hb161.mono HB.out.size))
                  clear hb161
                  obtain rfl := k_crit5 hru
                  clear hru
                  obtain ⟨cH0, cH1, cH2⟩ := CH.out.cells3
                  have ltH := CH.out.lt
                  obtain ⟨cT0, cT1, cT2⟩ := CT.out.cells3
                  have ltT := CT.out.lt
                  obtain ⟨cZ0, cZ1, cZ2⟩ := CZ.out.cells3
                  have ltZ := CZ.out.lt
                  go_wp2_with fail
                  refine (tCritical_c _ (4) _ _ _ _ FZ.out FZ.out).mono ?_
                  rintro e w162 ⟨ru, rfl, hru, hb162⟩
                  clear cH0 cH1 cH2 ltH cT0 cT1 cT2 ltT cZ0 cZ1 cZ2 ltZ
                  replace CH := Lib.hid (CH.out.after hb162)
                  replace CT := Lib.hid (CT.out.after hb162)
                  replace CZ := Lib.hid (CZ.out.after hb162)
                  replace FH := Lib.hid (FH.out.after hb162)
                  replace FT := Lib.hid (FT.out.after hb162)
                  replace FZ := Lib.hid (FZ.out.after hb162)
                  replace HB := Lib.hid (HB.out.trans (hb162.mono HB.out.size))
                  clear hb162
                  obtain rfl := k_crit1 hru
                  clear hru
                  clear FT CT FZ CZ
                  go_upto_region 55 with fail
                  have mkS : Hid (∀ w', Below w162.heap.size w162 w' → (w'.cell? ⟨w3.heap.size, 0, none⟩ = some (.bool (fr false 1 2).neg) ∧ w'.cell? ⟨w3.heap.size, 1, none⟩ = some (.slice pH (fr false 1 2).num.length mH) ∧ w'.cell? ⟨w3.heap.size, 2, none⟩ = some (.slice qH (fr false 1 2).den.length nH))) := fun w' hb => (CH.out.after hb).cells3
                  go_region_held3 (fun w' => (w'.cell? ⟨w3.heap.size, 0, none⟩ = some (.bool (fr false 1 2).neg) ∧ w'.cell? ⟨w3.heap.size, 1, none⟩ = some (.slice pH (fr false 1 2).num.length mH) ∧ w'.cell? ⟨w3.heap.size, 2, none⟩ = some (.slice qH (fr false 1 2).den.length nH)))
                    (first | (refine mkS.out _ ?_; (repeat (first | with_reducible exact hk2 | with_reducible exact hk1 | with_reducible exact Below.refl _ _ | with_reducible refine below_dr ?_)); done))
                    (first
                     | (go_at_call 31; refine (lone_c _).mono ?_; rw [w_11]; rintro e wa ⟨v, rfl, hv, hb⟩; have hk1 := below_of_drew hb; clear hb)
                     | (go_at_call 21; refine (tCritical_c _ (0) _ _ (fr false 1 2) (fr false 1 1) (FH.out.after hk1) hv).mono ?_; rintro e w170 ⟨ru, rfl, hru, hb⟩; obtain rfl := k_crit0 hru; have hk2 := hk1.trans (hb.mono hk1.size); clear hb hv hru))
                  clear hk1 mkS
                  replace CH := Lib.hid (CH.out.after hk2)
                  replace FH := Lib.hid (FH.out.after hk2)
                  replace HB := Lib.hid (HB.out.trans (hk2.mono HB.out.size))
                  clear hk2
                  clear FH CH
                  obtain ⟨M, hM1, hM2, hM3⟩ := kk_big
                  obtain ⟨P, hP1, hP2⟩ := kk_p
                  have HM1 := Lib.hid hM1
                  have HM2 := Lib.hid hM2
                  have HM3 := Lib.hid hM3
                  have HP1 := Lib.hid hP1
                  have HP2 := Lib.hid hP2
                  clear hM1 hM2 hM3 hP1 hP2
                  go_wp2_with fail
                  refine (tChoose_c _ 64 32).mono ?_
                  rw [HM1.out]
                  rintro e w171 ⟨v, rfl, hv, hb171⟩
                  have hv : Sl _ v (limbs M) := hv
                  obtain ⟨pn, qn, rfl, _, _⟩ := hv.shape
                  have Fn := Lib.hid hv
                  clear hv
                  replace HB := Lib.hid (HB.out.trans (hb171.mono HB.out.size))
                  clear hb171
                  go_wp2_with fail
                  refine (of_c _ 999 1000 (by omega) (by omega) (by omega) (by omega)).mono ?_
                  rw [w_999]
                  rintro e w172 ⟨v, rfl, hv, hb172⟩
                  have hv : IsF _ v (fr false 999 1000) := hv
                  obtain ⟨va, vb, rfl, h1, h2⟩ := hv
                  obtain ⟨pa, ma, rfl, _, _⟩ := h1.shape
                  obtain ⟨qa, na, rfl, _, _⟩ := h2.shape
                  have Fa := Lib.hid (IsF.at_ h1 h2)
                  clear h1 h2
                  replace Fn := Lib.hid (Fn.out.after hb172)
                  replace HB := Lib.hid (HB.out.trans (hb172.mono HB.out.size))
                  clear hb172
                  go_wp2_with fail
                  refine (tExactly_c _ 64 64 _ _ Fa.out).mono ?_
                  rw [HP1.out]
                  rintro e w173 ⟨v, rfl, hv, hb173⟩
                  have hv : IsF _ v (P) := hv
                  obtain ⟨va, vb, rfl, h1, h2⟩ := hv
                  obtain ⟨pp, mp, rfl, _, _⟩ := h1.shape
                  obtain ⟨qp, np, rfl, _, _⟩ := h2.shape
                  have Fp := Lib.hid (IsF.at_ h1 h2)
                  clear h1 h2
                  replace Fn := Lib.hid (Fn.out.after hb173)
                  replace Fa := Lib.hid (Fa.out.after hb173)
                  replace HB := Lib.hid (HB.out.trans (hb173.mono HB.out.size))
                  clear hb173
                  clear Fa
                  have g_p : w.heap.size ≤ w173.heap.size := by have := HB.out.size; omega
                  go_wp2_with fail
                  refine (of_c _ 1 1000 (by omega) (by omega) (by omega) (by omega)).mono ?_
                  rw [w_1000]
                  rintro e w174 ⟨v, rfl, hv, hb174⟩
                  have hv : IsF _ v (fr false 1 1000) := hv
                  obtain ⟨va, vb, rfl, h1, h2⟩ := hv
                  obtain ⟨pb, mb, rfl, _, _⟩ := h1.shape
                  obtain ⟨qb, nb, rfl, _, _⟩ := h2.shape
                  have Fb := Lib.hid (IsF.at_ h1 h2)
                  clear h1 h2
                  obtain ⟨hb174, Cp⟩ := after_new hb174
                  replace Cp := Lib.hid Cp
                  replace Fn := Lib.hid (Fn.out.after hb174)
                  replace Fp := Lib.hid (Fp.out.after hb174)
                  replace HB := Lib.hid (HB.out.trans (hb174.mono HB.out.size))
                  clear hb174
                  clear Fp
                  obtain ⟨cp0, cp1, cp2⟩ := Cp.out.cells3
                  have ltp := Cp.out.lt
                  go_wp2_with fail
                  refine (tTail_c _ 64 1 _ _ Fb.out).mono ?_
                  rw [kk_q]
                  rintro e w175 ⟨v, rfl, hv, hb175⟩
                  have hv : IsF _ v (Tq 1 1000 64 1) := hv
                  obtain ⟨va, vb, rfl, h1, h2⟩ := hv
                  obtain ⟨pq, mq, rfl, _, _⟩ := h1.shape
                  obtain ⟨qq, nq, rfl, _, _⟩ := h2.shape
                  have Fq := Lib.hid (IsF.at_ h1 h2)
                  clear h1 h2
                  clear cp0 cp1 cp2 ltp
                  replace Cp := Lib.hid (Cp.out.after hb175)
                  replace Fn := Lib.hid (Fn.out.after hb175)
                  replace Fb := Lib.hid (Fb.out.after hb175)
                  replace HB := Lib.hid (HB.out.trans (hb175.mono HB.out.size))
                  clear hb175
                  clear Fb
                  have d_p_q : w173.heap.size < w175.heap.size := Cp.out.lt
                  have g_q : w.heap.size ≤ w175.heap.size := by have := HB.out.size; omega
                  obtain ⟨cp0, cp1, cp2⟩ := Cp.out.cells3
                  have ltp := Cp.out.lt
                  go_wp2_with fail
                  refine (of_c _ 1 1000 (by omega) (by omega) (by omega) (by omega)).mono ?_
                  rw [w_1000]
                  rintro e w176 ⟨v, rfl, hv, hb176⟩
                  have hv : IsF _ v (fr false 1 1000) := hv
                  obtain ⟨va, vb, rfl, h1, h2⟩ := hv
                  obtain ⟨pb, mb, rfl, _, _⟩ := h1.shape
                  obtain ⟨qb, nb, rfl, _, _⟩ := h2.shape
                  have Fb := Lib.hid (IsF.at_ h1 h2)
                  clear h1 h2
                  clear cp0 cp1 cp2 ltp
                  obtain ⟨hb176, Cq⟩ := after_new hb176
                  replace Cq := Lib.hid Cq
                  replace Cp := Lib.hid (Cp.out.after hb176)
                  replace Fn := Lib.hid (Fn.out.after hb176)
                  replace Fq := Lib.hid (Fq.out.after hb176)
                  replace HB := Lib.hid (HB.out.trans (hb176.mono HB.out.size))
                  clear hb176
                  obtain ⟨cp0, cp1, cp2⟩ := Cp.out.cells3
                  have ltp := Cp.out.lt
                  obtain ⟨cq0, cq1, cq2⟩ := Cq.out.cells3
                  have ltq := Cq.out.lt
                  go_wp2_with fail
                  refine (tExactly_c _ 64 0 _ _ Fb.out).mono ?_
                  rw [kk_r]
                  rintro e w177 ⟨v, rfl, hv, hb177⟩
                  have hv : IsF _ v (Eq_ 1 1000 64 0) := hv
                  obtain ⟨va, vb, rfl, h1, h2⟩ := hv
                  obtain ⟨pr, mr, rfl, _, _⟩ := h1.shape
                  obtain ⟨qr, nr, rfl, _, _⟩ := h2.shape
                  have Fr := Lib.hid (IsF.at_ h1 h2)
                  clear h1 h2
                  clear cp0 cp1 cp2 ltp cq0 cq1 cq2 ltq
                  replace Cp := Lib.hid (Cp.out.after hb177)
                  replace Cq := Lib.hid (Cq.out.after hb177)
                  replace Fn := Lib.hid (Fn.out.after hb177)
                  replace Fq := Lib.hid (Fq.out.after hb177)
                  replace Fb := Lib.hid (Fb.out.after hb177)
                  replace HB := Lib.hid (HB.out.trans (hb177.mono HB.out.size))
                  clear hb177
                  clear Fb
                  have d_p_r : w173.heap.size < w177.heap.size := Cp.out.lt
                  have d_q_r : w175.heap.size < w177.heap.size := Cq.out.lt
                  have g_r : w.heap.size ≤ w177.heap.size := by have := HB.out.size; omega
                  obtain ⟨cp0, cp1, cp2⟩ := Cp.out.cells3
                  have ltp := Cp.out.lt
                  obtain ⟨cq0, cq1, cq2⟩ := Cq.out.cells3
                  have ltq := Cq.out.lt
                  go_wp2_with fail
                  refine (Add_c _ _ _ _ _ (Fq.out.alloc _) (Fr.out.alloc _)).mono ?_
                  rw [kk_sum]
                  rintro e w178 ⟨v, rfl, hv, hb178⟩
                  have hv : IsF _ v (fr false 1 1) := hv
                  obtain ⟨va, vb, rfl, h1, h2⟩ := hv
                  obtain ⟨ps, ms, rfl, _, _⟩ := h1.shape
                  obtain ⟨qs, ns, rfl, _, _⟩ := h2.shape
                  have Fs := Lib.hid (IsF.at_ h1 h2)
                  clear h1 h2
                  clear cp0 cp1 cp2 ltp cq0 cq1 cq2 ltq
                  obtain ⟨hb178, Cr⟩ := after_new hb178
                  replace Cr := Lib.hid Cr
                  replace Cp := Lib.hid (Cp.out.after hb178)
                  replace Cq := Lib.hid (Cq.out.after hb178)
                  replace Fn := Lib.hid (Fn.out.after hb178)
                  replace Fq := Lib.hid (Fq.out.after hb178)
                  replace Fr := Lib.hid (Fr.out.after hb178)
                  replace HB := Lib.hid (HB.out.trans (hb178.mono HB.out.size))
                  clear hb178
                  clear Fq Cq Fr Cr
                  have d_p_s : w173.heap.size < w178.heap.size := Cp.out.lt
                  have g_s : w.heap.size ≤ w178.heap.size := by have := HB.out.size; omega
                  go_upto_region 64 with fail
                  obtain ⟨w185, hw⟩ : ∃ w185, w185 = w178.alloc (.cells #[.bool (fr false 1 1).neg, .slice ps (fr false 1 1).num.length ms, .slice qs (fr false 1 1).den.length ns] 25) := ⟨_, rfl⟩
                  have hb := below_same hw
                  rw [← hw]
                  clear hw
                  obtain ⟨hb, Cs⟩ := after_new hb
                  replace Cs := Lib.hid Cs
                  replace Cp := Lib.hid (Cp.out.after hb)
                  replace Fn := Lib.hid (Fn.out.after hb)
                  replace Fs := Lib.hid (Fs.out.after hb)
                  replace HB := Lib.hid (HB.out.trans (hb.mono HB.out.size))
                  clear hb
                  obtain ⟨cp0, cp1, cp2⟩ := Cp.out.cells3
                  have ltp := Cp.out.lt
                  obtain ⟨cs0, cs1, cs2⟩ := Cs.out.cells3
                  have lts := Cs.out.lt
                  go_wp2_with fail
                  refine (Text_fr _ _ false M 1 ⟨_, _, rfl, Fn.out.alloc _, Sl_one _⟩ HM2.out).mono ?_
                  rw [if_neg (show ¬ (false = true) by decide), HM3.out]
                  rintro e w186 ⟨rfl, hb186⟩
                  clear cp0 cp1 cp2 ltp cs0 cs1 cs2 lts
                  obtain ⟨hb186, Co⟩ := after_new hb186
                  replace Co := Lib.hid Co
                  replace Cp := Lib.hid (Cp.out.after hb186)
                  replace Cs := Lib.hid (Cs.out.after hb186)
                  replace Fn := Lib.hid (Fn.out.after hb186)
                  replace Fs := Lib.hid (Fs.out.after hb186)
                  replace HB := Lib.hid (HB.out.trans (hb186.mono HB.out.size))
                  clear hb186
                  clear Co
                  clear Fn
                  have hlen := HP2.out
                  obtain ⟨cp0, cp1, cp2⟩ := Cp.out.cells3
                  have ltp := Cp.out.lt
                  obtain ⟨cs0, cs1, cs2⟩ := Cs.out.cells3
                  have lts := Cs.out.lt
                  go_wp2_with fail
                  refine (is_c _ _ (fr false 1 1) 0 1 1 Fs.out (by omega) (by omega) (by omega) (by omega)).mono ?_
                  intro e w187 hr
                  obtain ⟨rfl, hb187⟩ := hr.yes ⟨rfl, w_11.symm⟩
                  clear hr
                  clear cp0 cp1 cp2 ltp cs0 cs1 cs2 lts
                  replace Cp := Lib.hid (Cp.out.after hb187)
                  replace Cs := Lib.hid (Cs.out.after hb187)
                  replace Fs := Lib.hid (Fs.out.after hb187)
                  replace HB := Lib.hid (HB.out.trans (hb187.mono HB.out.size))
                  clear hb187
                  clear hlen
                  clear Fs Cs Cp
                  go_wp2_with fail
                  refine (works_c _).mono ?_
                  rintro e w188 ⟨rfl, hb188⟩
                  replace HB := Lib.hid (HB.out.trans (hb188.mono HB.out.size))
                  clear hb188
                  go_wp2_with fail
                  go_ret
                  exact ⟨rfl, HB.out⟩
end Go.Proofs.Ytppehiajocgiiaa
