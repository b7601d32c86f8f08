/- Walks of the reference: Simplest. -/
import Derived.Test.YtaojdlcailpheaaQVS
set_option linter.unusedVariables false
namespace Go.Proofs.Ytaojdlcailpheaa
open Go.RowKit

set_option maxRecDepth 100000 in
set_option maxHeartbeats 4000000 in
theorem rSimplest_empty (w : World) (v u : Value) (s t : Bool) (a b c d : Nat) (h : IsF w v (fr s a b)) (k : IsF w u (fr t c d)) (ok1 : Ok s a b) (ok2 : Ok t c d) (hord : 0 < ordN s a b t c d) :
    Calls Try.prog 40 #[v, u] w (RetF w (simplestF (fr s a b) (fr t c d))) := by
  obtain ⟨va, vb, rfl, h1, h2⟩ := h
  obtain ⟨vc, vd, rfl, h3, h4⟩ := k
  obtain ⟨pX, mX, rfl, _, _⟩ := h1.shape
  obtain ⟨qX, nX, rfl, _, _⟩ := h2.shape
  obtain ⟨pY, mY, rfl, _, _⟩ := h3.shape
  obtain ⟨qY, nY, rfl, _, _⟩ := h4.shape
  have hX0 : IsF w (.agg #[.bool s, .slice pX (limbs a).length mX, .slice qX (limbs b).length nX]) (fr s a b) := ⟨_, _, rfl, h1, h2⟩
  have hY0 : IsF w (.agg #[.bool t, .slice pY (limbs c).length mY, .slice qY (limbs d).length nY]) (fr t c d) := ⟨_, _, rfl, h3, h4⟩
  show Calls _ _ #[.agg #[.bool s, .slice pX (limbs a).length mX, .slice qX (limbs b).length nX], .agg #[.bool t, .slice pY (limbs c).length mY, .slice qY (limbs d).length nY]] w _
  obtain ⟨W0, hW, bx, by', br, hsz, hb0⟩ := start3 w #[.bool s, .slice pX (limbs a).length mX, .slice qX (limbs b).length nX] #[.bool t, .slice pY (limbs c).length mY, .slice qY (limbs d).length nY] #[.bool false, .slice none 0 0, .slice none 0 0] 25
  have FX := Lib.hid (hX0.after hb0)
  have FY := Lib.hid (hY0.after hb0)
  have HB := Lib.hid hb0
  have CX := Lib.hid bx
  have CY := Lib.hid by'
  have CR := Lib.hid br
  clear h1 h2 h3 h4 hX0 hY0 hb0 bx by' br hsz
  obtain ⟨RR, hRR⟩ : ∃ RR, simplestF (fr s a b) (fr t c d) = RR := ⟨_, rfl⟩
  rw [hRR]
  have HRR := Lib.hid hRR
  have HV1 := Lib.hid (validF_fr.2 ok1)
  have HV2 := Lib.hid (validF_fr.2 ok2)
  obtain ⟨o1, ho1⟩ : ∃ o1, ordN s a b t c d = o1 := ⟨_, rfl⟩
  rw [ho1] at hord
  have HO := Lib.hid ho1
  have hsf := simplestF_fr ok1 ok2
  rw [hRR, ho1] at hsf
  rw [if_pos hord] at hsf
  have HS : Hid (RR = (F0, 2)) := hsf
  have hdo : decide (0 < o1) = true := decide_eq_true hord
  clear hRR ho1 hsf hord
  go_enter Try.func40, Try.ntmps40
  go_upto_region 1 with fail
  rw [← hW]
  clear hW
  obtain ⟨cX0, cX1, cX2⟩ := CX.out.cells3
  have ltX := CX.out.lt
  obtain ⟨cY0, cY1, cY2⟩ := CY.out.cells3
  have ltY := CY.out.lt
  obtain ⟨cR0, cR1, cR2⟩ := CR.out.cells3
  have ltR := CR.out.lt
  go_wp2_with fail
  refine (RValid_c _ _ (fr s a b) FX.out).mono ?_
  intro e w1 hr
  obtain ⟨rfl, hb1⟩ := hr.yes HV1.out
  clear hr
  clear cX0 cX1 cX2 ltX cY0 cY1 cY2 ltY cR0 cR1 cR2 ltR
  replace CX := Lib.hid (CX.out.after hb1)
  replace CY := Lib.hid (CY.out.after hb1)
  replace CR := Lib.hid (CR.out.after hb1)
  replace FX := Lib.hid (FX.out.after hb1)
  replace FY := Lib.hid (FY.out.after hb1)
  replace HB := Lib.hid (HB.out.trans (hb1.mono HB.out.size))
  clear hb1
  obtain ⟨cX0, cX1, cX2⟩ := CX.out.cells3
  have ltX := CX.out.lt
  obtain ⟨cY0, cY1, cY2⟩ := CY.out.cells3
  have ltY := CY.out.lt
  obtain ⟨cR0, cR1, cR2⟩ := CR.out.cells3
  have ltR := CR.out.lt
  go_wp2_with fail
  refine (RValid_c _ _ (fr t c d) FY.out).mono ?_
  intro e w2 hr
  obtain ⟨rfl, hb2⟩ := hr.yes HV2.out
  clear hr
  clear cX0 cX1 cX2 ltX cY0 cY1 cY2 ltY cR0 cR1 cR2 ltR
  replace CX := Lib.hid (CX.out.after hb2)
  replace CY := Lib.hid (CY.out.after hb2)
  replace CR := Lib.hid (CR.out.after hb2)
  replace FX := Lib.hid (FX.out.after hb2)
  replace FY := Lib.hid (FY.out.after hb2)
  replace HB := Lib.hid (HB.out.trans (hb2.mono HB.out.size))
  clear hb2
  obtain ⟨cX0, cX1, cX2⟩ := CX.out.cells3
  have ltX := CX.out.lt
  obtain ⟨cY0, cY1, cY2⟩ := CY.out.cells3
  have ltY := CY.out.lt
  obtain ⟨cR0, cR1, cR2⟩ := CR.out.cells3
  have ltR := CR.out.lt
  go_wp2_with fail
  refine (rorder_c _ _ _ s t a b c d FX.out FY.out (Nat.le_trans ok1.n32 (by omega)) (Nat.le_trans ok1.d32 (by omega)) (Nat.le_trans ok2.n32 (by omega)) (Nat.le_trans ok2.d32 (by omega))).mono ?_
  rw [HO.out]
  rintro e w3 ⟨rfl, hb3⟩
  clear cX0 cX1 cX2 ltX cY0 cY1 cY2 ltY cR0 cR1 cR2 ltR
  replace CX := Lib.hid (CX.out.after hb3)
  replace CY := Lib.hid (CY.out.after hb3)
  replace CR := Lib.hid (CR.out.after hb3)
  replace FX := Lib.hid (FX.out.after hb3)
  replace FY := Lib.hid (FY.out.after hb3)
  replace HB := Lib.hid (HB.out.trans (hb3.mono HB.out.size))
  clear hb3
  obtain ⟨cX0, cX1, cX2⟩ := CX.out.cells3
  have ltX := CX.out.lt
  obtain ⟨cY0, cY1, cY2⟩ := CY.out.cells3
  have ltY := CY.out.lt
  obtain ⟨cR0, cR1, cR2⟩ := CR.out.cells3
  have ltR := CR.out.lt
  have zR0 := CR.out.frozen 0
  have zR1 := CR.out.frozen 1
  have zR2 := CR.out.frozen 2
  go_wp2_with fail
  refine bodyPost_ret (v := .tuple #[.agg #[.bool false, .slice none 0 0, .slice none 0 0], .int .i64 2]) (by simp [results, Try.results40, go_sem, cR0, cR1, cR2]) rfl ?_
  rw [HS.out]
  exact ⟨_, rfl, IsF.zero _, ((HB.out.setCell (p := ⟨w.heap.size + 2, 0, none⟩) (by simp) _).setCell (p := ⟨w.heap.size + 2, 1, none⟩) (by simp) _).setCell (p := ⟨w.heap.size + 2, 2, none⟩) (by simp) _⟩
set_option maxRecDepth 100000 in
set_option maxHeartbeats 4000000 in
theorem rSimplest_neg (w : World) (v u : Value) (a b c d : Nat) (h : IsF w v (fr true a b)) (k : IsF w u (fr false c d)) (ok1 : Ok true a b) (ok2 : Ok false c d) (hord : ¬ 0 < ordN true a b false c d) :
    Calls Try.prog 40 #[v, u] w (RetF w (simplestF (fr true a b) (fr false c d))) := by
  obtain ⟨va, vb, rfl, h1, h2⟩ := h
  obtain ⟨vc, vd, rfl, h3, h4⟩ := k
  obtain ⟨pX, mX, rfl, _, _⟩ := h1.shape
  obtain ⟨qX, nX, rfl, _, _⟩ := h2.shape
  obtain ⟨pY, mY, rfl, _, _⟩ := h3.shape
  obtain ⟨qY, nY, rfl, _, _⟩ := h4.shape
  have hX0 : IsF w (.agg #[.bool true, .slice pX (limbs a).length mX, .slice qX (limbs b).length nX]) (fr true a b) := ⟨_, _, rfl, h1, h2⟩
  have hY0 : IsF w (.agg #[.bool false, .slice pY (limbs c).length mY, .slice qY (limbs d).length nY]) (fr false c d) := ⟨_, _, rfl, h3, h4⟩
  show Calls _ _ #[.agg #[.bool true, .slice pX (limbs a).length mX, .slice qX (limbs b).length nX], .agg #[.bool false, .slice pY (limbs c).length mY, .slice qY (limbs d).length nY]] w _
  obtain ⟨W0, hW, bx, by', br, hsz, hb0⟩ := start3 w #[.bool true, .slice pX (limbs a).length mX, .slice qX (limbs b).length nX] #[.bool false, .slice pY (limbs c).length mY, .slice qY (limbs d).length nY] #[.bool false, .slice none 0 0, .slice none 0 0] 25
  have FX := Lib.hid (hX0.after hb0)
  have FY := Lib.hid (hY0.after hb0)
  have HB := Lib.hid hb0
  have CX := Lib.hid bx
  have CY := Lib.hid by'
  have CR := Lib.hid br
  clear h1 h2 h3 h4 hX0 hY0 hb0 bx by' br hsz
  obtain ⟨RR, hRR⟩ : ∃ RR, simplestF (fr true a b) (fr false c d) = RR := ⟨_, rfl⟩
  rw [hRR]
  have HRR := Lib.hid hRR
  have HV1 := Lib.hid (validF_fr.2 ok1)
  have HV2 := Lib.hid (validF_fr.2 ok2)
  obtain ⟨o1, ho1⟩ : ∃ o1, ordN true a b false c d = o1 := ⟨_, rfl⟩
  rw [ho1] at hord
  have HO := Lib.hid ho1
  have hsf := simplestF_fr ok1 ok2
  rw [hRR, ho1] at hsf
  rw [if_neg hord, if_neg (by decide), if_pos (Or.inl rfl)] at hsf
  have HS : Hid (RR = (fr false 0 1, 0)) := hsf
  have hdo : decide (0 < o1) = false := decide_eq_false hord
  clear hRR ho1 hsf hord
  go_enter Try.func40, Try.ntmps40
  go_upto_region 1 with fail
  rw [← hW]
  clear hW
  obtain ⟨cX0, cX1, cX2⟩ := CX.out.cells3
  have ltX := CX.out.lt
  obtain ⟨cY0, cY1, cY2⟩ := CY.out.cells3
  have ltY := CY.out.lt
  obtain ⟨cR0, cR1, cR2⟩ := CR.out.cells3
  have ltR := CR.out.lt
  go_wp2_with fail
  refine (RValid_c _ _ (fr true a b) FX.out).mono ?_
  intro e w1 hr
  obtain ⟨rfl, hb1⟩ := hr.yes HV1.out
  clear hr
  clear cX0 cX1 cX2 ltX cY0 cY1 cY2 ltY cR0 cR1 cR2 ltR
  replace CX := Lib.hid (CX.out.after hb1)
  replace CY := Lib.hid (CY.out.after hb1)
  replace CR := Lib.hid (CR.out.after hb1)
  replace FX := Lib.hid (FX.out.after hb1)
  replace FY := Lib.hid (FY.out.after hb1)
  replace HB := Lib.hid (HB.out.trans (hb1.mono HB.out.size))
  clear hb1
  obtain ⟨cX0, cX1, cX2⟩ := CX.out.cells3
  have ltX := CX.out.lt
  obtain ⟨cY0, cY1, cY2⟩ := CY.out.cells3
  have ltY := CY.out.lt
  obtain ⟨cR0, cR1, cR2⟩ := CR.out.cells3
  have ltR := CR.out.lt
  go_wp2_with fail
  refine (RValid_c _ _ (fr false c d) FY.out).mono ?_
  intro e w2 hr
  obtain ⟨rfl, hb2⟩ := hr.yes HV2.out
  clear hr
  clear cX0 cX1 cX2 ltX cY0 cY1 cY2 ltY cR0 cR1 cR2 ltR
  replace CX := Lib.hid (CX.out.after hb2)
  replace CY := Lib.hid (CY.out.after hb2)
  replace CR := Lib.hid (CR.out.after hb2)
  replace FX := Lib.hid (FX.out.after hb2)
  replace FY := Lib.hid (FY.out.after hb2)
  replace HB := Lib.hid (HB.out.trans (hb2.mono HB.out.size))
  clear hb2
  obtain ⟨cX0, cX1, cX2⟩ := CX.out.cells3
  have ltX := CX.out.lt
  obtain ⟨cY0, cY1, cY2⟩ := CY.out.cells3
  have ltY := CY.out.lt
  obtain ⟨cR0, cR1, cR2⟩ := CR.out.cells3
  have ltR := CR.out.lt
  go_wp2_with fail
  refine (rorder_c _ _ _ true false a b c d FX.out FY.out (Nat.le_trans ok1.n32 (by omega)) (Nat.le_trans ok1.d32 (by omega)) (Nat.le_trans ok2.n32 (by omega)) (Nat.le_trans ok2.d32 (by omega))).mono ?_
  rw [HO.out]
  rintro e w3 ⟨rfl, hb3⟩
  clear cX0 cX1 cX2 ltX cY0 cY1 cY2 ltY cR0 cR1 cR2 ltR
  replace CX := Lib.hid (CX.out.after hb3)
  replace CY := Lib.hid (CY.out.after hb3)
  replace CR := Lib.hid (CR.out.after hb3)
  replace FX := Lib.hid (FX.out.after hb3)
  replace FY := Lib.hid (FY.out.after hb3)
  replace HB := Lib.hid (HB.out.trans (hb3.mono HB.out.size))
  clear hb3
  obtain ⟨cX0, cX1, cX2⟩ := CX.out.cells3
  have ltX := CX.out.lt
  obtain ⟨cY0, cY1, cY2⟩ := CY.out.cells3
  have ltY := CY.out.lt
  obtain ⟨cR0, cR1, cR2⟩ := CR.out.cells3
  have ltR := CR.out.lt
  go_wp2_with fail
  refine ((rwhole_c _ (.slice none 0 0) 0 (by rw [limbs_zero]; exact Sl.nil _))).mono ?_
  rintro e w4 ⟨v, rfl, hv, hb4⟩
  have hv : IsF _ v (fr false 0 1) := hv
  obtain ⟨va, vb, rfl, h1, h2⟩ := hv
  obtain ⟨pZ, mZ, rfl, _, _⟩ := h1.shape
  obtain ⟨qZ, nZ, rfl, _, _⟩ := h2.shape
  have FZ := Lib.hid (IsF.at_ h1 h2)
  clear h1 h2
  clear cX0 cX1 cX2 ltX cY0 cY1 cY2 ltY cR0 cR1 cR2 ltR
  replace CX := Lib.hid (CX.out.after hb4)
  replace CY := Lib.hid (CY.out.after hb4)
  replace CR := Lib.hid (CR.out.after hb4)
  replace FX := Lib.hid (FX.out.after hb4)
  replace FY := Lib.hid (FY.out.after hb4)
  replace HB := Lib.hid (HB.out.trans (hb4.mono HB.out.size))
  clear hb4
  obtain ⟨cX0, cX1, cX2⟩ := CX.out.cells3
  have ltX := CX.out.lt
  obtain ⟨cY0, cY1, cY2⟩ := CY.out.cells3
  have ltY := CY.out.lt
  obtain ⟨cR0, cR1, cR2⟩ := CR.out.cells3
  have ltR := CR.out.lt
  have zR0 := CR.out.frozen 0
  have zR1 := CR.out.frozen 1
  have zR2 := CR.out.frozen 2
  go_wp2_with fail
  refine bodyPost_ret (v := .tuple #[.agg #[.bool false, .slice pZ (limbs (0)).length mZ, .slice qZ (limbs (1)).length nZ], .int .i64 0]) (by simp [results, Try.results40, go_sem, cR0, cR1, cR2, fr]) rfl ?_
  rw [HS.out]
  obtain ⟨v9, e9, i9, b9⟩ := retF1_end (x := fr false (0) (1)) HB.out CR.out (fun _ h => by cases h) (fun _ h => by cases h) (by omega) FZ.out.parts.2.1 FZ.out.parts.2.2
  injection e9 with e9
  subst e9
  exact ⟨_, rfl, i9, b9⟩
set_option maxRecDepth 100000 in
set_option maxHeartbeats 4000000 in
theorem rSimplest_nil (w : World) (v u : Value) (b c d : Nat) (h : IsF w v (fr false 0 b)) (k : IsF w u (fr false c d)) (ok1 : Ok false 0 b) (ok2 : Ok false c d) (hord : ¬ 0 < ordN false 0 b false c d) :
    Calls Try.prog 40 #[v, u] w (RetF w (simplestF (fr false 0 b) (fr false c d))) := by
  obtain ⟨va, vb, rfl, h1, h2⟩ := h
  obtain ⟨vc, vd, rfl, h3, h4⟩ := k
  obtain ⟨pX, mX, rfl, _, _⟩ := h1.shape
  obtain ⟨qX, nX, rfl, _, _⟩ := h2.shape
  obtain ⟨pY, mY, rfl, _, _⟩ := h3.shape
  obtain ⟨qY, nY, rfl, _, _⟩ := h4.shape
  have hX0 : IsF w (.agg #[.bool false, .slice pX (limbs 0).length mX, .slice qX (limbs b).length nX]) (fr false 0 b) := ⟨_, _, rfl, h1, h2⟩
  have hY0 : IsF w (.agg #[.bool false, .slice pY (limbs c).length mY, .slice qY (limbs d).length nY]) (fr false c d) := ⟨_, _, rfl, h3, h4⟩
  show Calls _ _ #[.agg #[.bool false, .slice pX (limbs 0).length mX, .slice qX (limbs b).length nX], .agg #[.bool false, .slice pY (limbs c).length mY, .slice qY (limbs d).length nY]] w _
  obtain ⟨W0, hW, bx, by', br, hsz, hb0⟩ := start3 w #[.bool false, .slice pX (limbs 0).length mX, .slice qX (limbs b).length nX] #[.bool false, .slice pY (limbs c).length mY, .slice qY (limbs d).length nY] #[.bool false, .slice none 0 0, .slice none 0 0] 25
  have FX := Lib.hid (hX0.after hb0)
  have FY := Lib.hid (hY0.after hb0)
  have HB := Lib.hid hb0
  have CX := Lib.hid bx
  have CY := Lib.hid by'
  have CR := Lib.hid br
  clear h1 h2 h3 h4 hX0 hY0 hb0 bx by' br hsz
  obtain ⟨RR, hRR⟩ : ∃ RR, simplestF (fr false 0 b) (fr false c d) = RR := ⟨_, rfl⟩
  rw [hRR]
  have HRR := Lib.hid hRR
  have HV1 := Lib.hid (validF_fr.2 ok1)
  have HV2 := Lib.hid (validF_fr.2 ok2)
  obtain ⟨o1, ho1⟩ : ∃ o1, ordN false 0 b false c d = o1 := ⟨_, rfl⟩
  rw [ho1] at hord
  have HO := Lib.hid ho1
  have hsf := simplestF_fr ok1 ok2
  rw [hRR, ho1] at hsf
  rw [if_neg hord, if_neg (by decide), if_pos (Or.inr rfl)] at hsf
  have HS : Hid (RR = (fr false 0 1, 0)) := hsf
  have hdo : decide (0 < o1) = false := decide_eq_false hord
  clear hRR ho1 hsf hord
  rw [limbs_zero] at CX hW FX
  simp only [List.length_nil] at CX hW FX
  rw [limbs_zero]
  simp only [List.length_nil]
  go_enter Try.func40, Try.ntmps40
  go_upto_region 1 with fail
  rw [← hW]
  clear hW
  obtain ⟨cX0, cX1, cX2⟩ := CX.out.cells3
  have ltX := CX.out.lt
  obtain ⟨cY0, cY1, cY2⟩ := CY.out.cells3
  have ltY := CY.out.lt
  obtain ⟨cR0, cR1, cR2⟩ := CR.out.cells3
  have ltR := CR.out.lt
  go_wp2_with fail
  refine (RValid_c _ _ (fr false 0 b) FX.out).mono ?_
  intro e w1 hr
  obtain ⟨rfl, hb1⟩ := hr.yes HV1.out
  clear hr
  clear cX0 cX1 cX2 ltX cY0 cY1 cY2 ltY cR0 cR1 cR2 ltR
  replace CX := Lib.hid (CX.out.after hb1)
  replace CY := Lib.hid (CY.out.after hb1)
  replace CR := Lib.hid (CR.out.after hb1)
  replace FX := Lib.hid (FX.out.after hb1)
  replace FY := Lib.hid (FY.out.after hb1)
  replace HB := Lib.hid (HB.out.trans (hb1.mono HB.out.size))
  clear hb1
  obtain ⟨cX0, cX1, cX2⟩ := CX.out.cells3
  have ltX := CX.out.lt
  obtain ⟨cY0, cY1, cY2⟩ := CY.out.cells3
  have ltY := CY.out.lt
  obtain ⟨cR0, cR1, cR2⟩ := CR.out.cells3
  have ltR := CR.out.lt
  go_wp2_with fail
  refine (RValid_c _ _ (fr false c d) FY.out).mono ?_
  intro e w2 hr
  obtain ⟨rfl, hb2⟩ := hr.yes HV2.out
  clear hr
  clear cX0 cX1 cX2 ltX cY0 cY1 cY2 ltY cR0 cR1 cR2 ltR
  replace CX := Lib.hid (CX.out.after hb2)
  replace CY := Lib.hid (CY.out.after hb2)
  replace CR := Lib.hid (CR.out.after hb2)
  replace FX := Lib.hid (FX.out.after hb2)
  replace FY := Lib.hid (FY.out.after hb2)
  replace HB := Lib.hid (HB.out.trans (hb2.mono HB.out.size))
  clear hb2
  obtain ⟨cX0, cX1, cX2⟩ := CX.out.cells3
  have ltX := CX.out.lt
  obtain ⟨cY0, cY1, cY2⟩ := CY.out.cells3
  have ltY := CY.out.lt
  obtain ⟨cR0, cR1, cR2⟩ := CR.out.cells3
  have ltR := CR.out.lt
  go_wp2_with fail
  refine (rorder_c _ _ _ false false 0 b c d FX.out FY.out (Nat.le_trans ok1.n32 (by omega)) (Nat.le_trans ok1.d32 (by omega)) (Nat.le_trans ok2.n32 (by omega)) (Nat.le_trans ok2.d32 (by omega))).mono ?_
  rw [HO.out]
  rintro e w3 ⟨rfl, hb3⟩
  clear cX0 cX1 cX2 ltX cY0 cY1 cY2 ltY cR0 cR1 cR2 ltR
  replace CX := Lib.hid (CX.out.after hb3)
  replace CY := Lib.hid (CY.out.after hb3)
  replace CR := Lib.hid (CR.out.after hb3)
  replace FX := Lib.hid (FX.out.after hb3)
  replace FY := Lib.hid (FY.out.after hb3)
  replace HB := Lib.hid (HB.out.trans (hb3.mono HB.out.size))
  clear hb3
  obtain ⟨cX0, cX1, cX2⟩ := CX.out.cells3
  have ltX := CX.out.lt
  obtain ⟨cY0, cY1, cY2⟩ := CY.out.cells3
  have ltY := CY.out.lt
  obtain ⟨cR0, cR1, cR2⟩ := CR.out.cells3
  have ltR := CR.out.lt
  go_wp2_with fail
  refine ((rwhole_c _ (.slice none 0 0) 0 (by rw [limbs_zero]; exact Sl.nil _))).mono ?_
  rintro e w4 ⟨v, rfl, hv, hb4⟩
  have hv : IsF _ v (fr false 0 1) := hv
  obtain ⟨va, vb, rfl, h1, h2⟩ := hv
  obtain ⟨pZ, mZ, rfl, _, _⟩ := h1.shape
  obtain ⟨qZ, nZ, rfl, _, _⟩ := h2.shape
  have FZ := Lib.hid (IsF.at_ h1 h2)
  clear h1 h2
  clear cX0 cX1 cX2 ltX cY0 cY1 cY2 ltY cR0 cR1 cR2 ltR
  replace CX := Lib.hid (CX.out.after hb4)
  replace CY := Lib.hid (CY.out.after hb4)
  replace CR := Lib.hid (CR.out.after hb4)
  replace FX := Lib.hid (FX.out.after hb4)
  replace FY := Lib.hid (FY.out.after hb4)
  replace HB := Lib.hid (HB.out.trans (hb4.mono HB.out.size))
  clear hb4
  obtain ⟨cX0, cX1, cX2⟩ := CX.out.cells3
  have ltX := CX.out.lt
  obtain ⟨cY0, cY1, cY2⟩ := CY.out.cells3
  have ltY := CY.out.lt
  obtain ⟨cR0, cR1, cR2⟩ := CR.out.cells3
  have ltR := CR.out.lt
  have zR0 := CR.out.frozen 0
  have zR1 := CR.out.frozen 1
  have zR2 := CR.out.frozen 2
  go_wp2_with fail
  refine bodyPost_ret (v := .tuple #[.agg #[.bool false, .slice pZ (limbs (0)).length mZ, .slice qZ (limbs (1)).length nZ], .int .i64 0]) (by simp [results, Try.results40, go_sem, cR0, cR1, cR2, fr]) rfl ?_
  rw [HS.out]
  obtain ⟨v9, e9, i9, b9⟩ := retF1_end (x := fr false (0) (1)) HB.out CR.out (fun _ h => by cases h) (fun _ h => by cases h) (by omega) FZ.out.parts.2.1 FZ.out.parts.2.2
  injection e9 with e9
  subst e9
  exact ⟨_, rfl, i9, b9⟩
set_option maxRecDepth 100000 in
set_option maxHeartbeats 4000000 in
theorem rSimplest_above (w : World) (v u : Value) (a b c d : Nat) (h : IsF w v (fr false a b)) (k : IsF w u (fr false c d)) (ok1 : Ok false a b) (ok2 : Ok false c d) (ha : 0 < a) (hord : ¬ 0 < ordN false a b false c d) :
    Calls Try.prog 40 #[v, u] w (RetF w (simplestF (fr false a b) (fr false c d))) := by
  obtain ⟨va, vb, rfl, h1, h2⟩ := h
  obtain ⟨vc, vd, rfl, h3, h4⟩ := k
  obtain ⟨pX, mX, rfl, _, _⟩ := h1.shape
  obtain ⟨qX, nX, rfl, _, _⟩ := h2.shape
  obtain ⟨pY, mY, rfl, _, _⟩ := h3.shape
  obtain ⟨qY, nY, rfl, _, _⟩ := h4.shape
  have hX0 : IsF w (.agg #[.bool false, .slice pX (limbs a).length mX, .slice qX (limbs b).length nX]) (fr false a b) := ⟨_, _, rfl, h1, h2⟩
  have hY0 : IsF w (.agg #[.bool false, .slice pY (limbs c).length mY, .slice qY (limbs d).length nY]) (fr false c d) := ⟨_, _, rfl, h3, h4⟩
  show Calls _ _ #[.agg #[.bool false, .slice pX (limbs a).length mX, .slice qX (limbs b).length nX], .agg #[.bool false, .slice pY (limbs c).length mY, .slice qY (limbs d).length nY]] w _
  obtain ⟨W0, hW, bx, by', br, hsz, hb0⟩ := start3 w #[.bool false, .slice pX (limbs a).length mX, .slice qX (limbs b).length nX] #[.bool false, .slice pY (limbs c).length mY, .slice qY (limbs d).length nY] #[.bool false, .slice none 0 0, .slice none 0 0] 25
  have FX := Lib.hid (hX0.after hb0)
  have FY := Lib.hid (hY0.after hb0)
  have HB := Lib.hid hb0
  have CX := Lib.hid bx
  have CY := Lib.hid by'
  have CR := Lib.hid br
  clear h1 h2 h3 h4 hX0 hY0 hb0 bx by' br hsz
  obtain ⟨RR, hRR⟩ : ∃ RR, simplestF (fr false a b) (fr false c d) = RR := ⟨_, rfl⟩
  rw [hRR]
  have HRR := Lib.hid hRR
  have HV1 := Lib.hid (validF_fr.2 ok1)
  have HV2 := Lib.hid (validF_fr.2 ok2)
  obtain ⟨o1, ho1⟩ : ∃ o1, ordN false a b false c d = o1 := ⟨_, rfl⟩
  rw [ho1] at hord
  have HO := Lib.hid ho1
  have hsf := simplestF_fr ok1 ok2
  rw [hRR, ho1] at hsf
  have hle := ord_pos (by rw [ho1]; exact hord)
  rw [if_neg hord, if_neg (by decide), if_neg (by rintro (h | h); cases h; omega)] at hsf
  have hdo : decide (0 < o1) = false := decide_eq_false hord
  have hlx := limbs_len_pos ha
  have hl0 : ((limbs a).length == 0) = false := beq_eq_false_iff_ne.2 (by omega)
  have hl1 : (((limbs a).length : Int) == 0) = false := beq_eq_false_iff_ne.2 (by omega)
  have HSM := Lib.hid (fun W V U h1 h2 => rsimplest_c (b + d) W V U a b c d rfl h1 h2 ok1 ok2 hle)
  obtain ⟨y1, hy1⟩ : ∃ y1, (simpN a b c d).1 = y1 := ⟨_, rfl⟩
  obtain ⟨y2, hy2⟩ : ∃ y2, (simpN a b c d).2 = y2 := ⟨_, rfl⟩
  rw [hy1, hy2] at hsf HSM
  have HS : Hid (RR = (fr false y1 y2, 0)) := hsf
  clear hRR ho1 hsf hord hy1 hy2 hle
  go_enter Try.func40, Try.ntmps40
  go_upto_region 1 with fail
  rw [← hW]
  clear hW
  obtain ⟨cX0, cX1, cX2⟩ := CX.out.cells3
  have ltX := CX.out.lt
  obtain ⟨cY0, cY1, cY2⟩ := CY.out.cells3
  have ltY := CY.out.lt
  obtain ⟨cR0, cR1, cR2⟩ := CR.out.cells3
  have ltR := CR.out.lt
  go_wp2_with fail
  refine (RValid_c _ _ (fr false a b) FX.out).mono ?_
  intro e w1 hr
  obtain ⟨rfl, hb1⟩ := hr.yes HV1.out
  clear hr
  clear cX0 cX1 cX2 ltX cY0 cY1 cY2 ltY cR0 cR1 cR2 ltR
  replace CX := Lib.hid (CX.out.after hb1)
  replace CY := Lib.hid (CY.out.after hb1)
  replace CR := Lib.hid (CR.out.after hb1)
  replace FX := Lib.hid (FX.out.after hb1)
  replace FY := Lib.hid (FY.out.after hb1)
  replace HB := Lib.hid (HB.out.trans (hb1.mono HB.out.size))
  clear hb1
  obtain ⟨cX0, cX1, cX2⟩ := CX.out.cells3
  have ltX := CX.out.lt
  obtain ⟨cY0, cY1, cY2⟩ := CY.out.cells3
  have ltY := CY.out.lt
  obtain ⟨cR0, cR1, cR2⟩ := CR.out.cells3
  have ltR := CR.out.lt
  go_wp2_with fail
  refine (RValid_c _ _ (fr false c d) FY.out).mono ?_
  intro e w2 hr
  obtain ⟨rfl, hb2⟩ := hr.yes HV2.out
  clear hr
  clear cX0 cX1 cX2 ltX cY0 cY1 cY2 ltY cR0 cR1 cR2 ltR
  replace CX := Lib.hid (CX.out.after hb2)
  replace CY := Lib.hid (CY.out.after hb2)
  replace CR := Lib.hid (CR.out.after hb2)
  replace FX := Lib.hid (FX.out.after hb2)
  replace FY := Lib.hid (FY.out.after hb2)
  replace HB := Lib.hid (HB.out.trans (hb2.mono HB.out.size))
  clear hb2
  obtain ⟨cX0, cX1, cX2⟩ := CX.out.cells3
  have ltX := CX.out.lt
  obtain ⟨cY0, cY1, cY2⟩ := CY.out.cells3
  have ltY := CY.out.lt
  obtain ⟨cR0, cR1, cR2⟩ := CR.out.cells3
  have ltR := CR.out.lt
  go_wp2_with fail
  refine (rorder_c _ _ _ false false a b c d FX.out FY.out (Nat.le_trans ok1.n32 (by omega)) (Nat.le_trans ok1.d32 (by omega)) (Nat.le_trans ok2.n32 (by omega)) (Nat.le_trans ok2.d32 (by omega))).mono ?_
  rw [HO.out]
  rintro e w3 ⟨rfl, hb3⟩
  clear cX0 cX1 cX2 ltX cY0 cY1 cY2 ltY cR0 cR1 cR2 ltR
  replace CX := Lib.hid (CX.out.after hb3)
  replace CY := Lib.hid (CY.out.after hb3)
  replace CR := Lib.hid (CR.out.after hb3)
  replace FX := Lib.hid (FX.out.after hb3)
  replace FY := Lib.hid (FY.out.after hb3)
  replace HB := Lib.hid (HB.out.trans (hb3.mono HB.out.size))
  clear hb3
  obtain ⟨cX0, cX1, cX2⟩ := CX.out.cells3
  have ltX := CX.out.lt
  obtain ⟨cY0, cY1, cY2⟩ := CY.out.cells3
  have ltY := CY.out.lt
  obtain ⟨cR0, cR1, cR2⟩ := CR.out.cells3
  have ltR := CR.out.lt
  go_wp2_with fail
  refine (HSM.out _ _ _ FX.out FY.out).mono ?_
  rintro e w4 ⟨v, rfl, hv, hb4⟩
  have hv : IsF _ v (fr false y1 y2) := hv
  obtain ⟨va, vb, rfl, h1, h2⟩ := hv
  obtain ⟨pZ, mZ, rfl, _, _⟩ := h1.shape
  obtain ⟨qZ, nZ, rfl, _, _⟩ := h2.shape
  have FZ := Lib.hid (IsF.at_ h1 h2)
  clear h1 h2
  clear cX0 cX1 cX2 ltX cY0 cY1 cY2 ltY cR0 cR1 cR2 ltR
  replace CX := Lib.hid (CX.out.after hb4)
  replace CY := Lib.hid (CY.out.after hb4)
  replace CR := Lib.hid (CR.out.after hb4)
  replace FX := Lib.hid (FX.out.after hb4)
  replace FY := Lib.hid (FY.out.after hb4)
  replace HB := Lib.hid (HB.out.trans (hb4.mono HB.out.size))
  clear hb4
  obtain ⟨cX0, cX1, cX2⟩ := CX.out.cells3
  have ltX := CX.out.lt
  obtain ⟨cY0, cY1, cY2⟩ := CY.out.cells3
  have ltY := CY.out.lt
  obtain ⟨cR0, cR1, cR2⟩ := CR.out.cells3
  have ltR := CR.out.lt
  have zR0 := CR.out.frozen 0
  have zR1 := CR.out.frozen 1
  have zR2 := CR.out.frozen 2
  go_wp2_with fail
  refine bodyPost_ret (v := .tuple #[.agg #[.bool false, .slice pZ (limbs (y1)).length mZ, .slice qZ (limbs (y2)).length nZ], .int .i64 0]) (by simp [results, Try.results40, go_sem, cR0, cR1, cR2, fr]) rfl ?_
  rw [HS.out]
  obtain ⟨v9, e9, i9, b9⟩ := retF1_end (x := fr false (y1) (y2)) HB.out CR.out (fun _ h => by cases h) (fun _ h => by cases h) (by omega) FZ.out.parts.2.1 FZ.out.parts.2.2
  injection e9 with e9
  subst e9
  exact ⟨_, rfl, i9, b9⟩
set_option maxRecDepth 100000 in
set_option maxHeartbeats 4000000 in
theorem rSimplest_below (w : World) (v u : Value) (a b c d : Nat) (h : IsF w v (fr true a b)) (k : IsF w u (fr true c d)) (ok1 : Ok true a b) (ok2 : Ok true c d) (hord : ¬ 0 < ordN true a b true c d) :
    Calls Try.prog 40 #[v, u] w (RetF w (simplestF (fr true a b) (fr true c d))) := by
  obtain ⟨va, vb, rfl, h1, h2⟩ := h
  obtain ⟨vc, vd, rfl, h3, h4⟩ := k
  obtain ⟨pX, mX, rfl, _, _⟩ := h1.shape
  obtain ⟨qX, nX, rfl, _, _⟩ := h2.shape
  obtain ⟨pY, mY, rfl, _, _⟩ := h3.shape
  obtain ⟨qY, nY, rfl, _, _⟩ := h4.shape
  have hX0 : IsF w (.agg #[.bool true, .slice pX (limbs a).length mX, .slice qX (limbs b).length nX]) (fr true a b) := ⟨_, _, rfl, h1, h2⟩
  have hY0 : IsF w (.agg #[.bool true, .slice pY (limbs c).length mY, .slice qY (limbs d).length nY]) (fr true c d) := ⟨_, _, rfl, h3, h4⟩
  show Calls _ _ #[.agg #[.bool true, .slice pX (limbs a).length mX, .slice qX (limbs b).length nX], .agg #[.bool true, .slice pY (limbs c).length mY, .slice qY (limbs d).length nY]] w _
  obtain ⟨W0, hW, bx, by', br, hsz, hb0⟩ := start3 w #[.bool true, .slice pX (limbs a).length mX, .slice qX (limbs b).length nX] #[.bool true, .slice pY (limbs c).length mY, .slice qY (limbs d).length nY] #[.bool false, .slice none 0 0, .slice none 0 0] 25
  have FX := Lib.hid (hX0.after hb0)
  have FY := Lib.hid (hY0.after hb0)
  have HB := Lib.hid hb0
  have CX := Lib.hid bx
  have CY := Lib.hid by'
  have CR := Lib.hid br
  clear h1 h2 h3 h4 hX0 hY0 hb0 bx by' br hsz
  obtain ⟨RR, hRR⟩ : ∃ RR, simplestF (fr true a b) (fr true c d) = RR := ⟨_, rfl⟩
  rw [hRR]
  have HRR := Lib.hid hRR
  have HV1 := Lib.hid (validF_fr.2 ok1)
  have HV2 := Lib.hid (validF_fr.2 ok2)
  obtain ⟨o1, ho1⟩ : ∃ o1, ordN true a b true c d = o1 := ⟨_, rfl⟩
  rw [ho1] at hord
  have HO := Lib.hid ho1
  have hsf := simplestF_fr ok1 ok2
  rw [hRR, ho1] at hsf
  have hle := ord_neg (by rw [ho1]; exact hord)
  rw [if_neg hord, if_pos rfl] at hsf
  have hdo : decide (0 < o1) = false := decide_eq_false hord
  have ha : 0 < a := Nat.pos_of_ne_zero fun e => by have := ok1.sign e; cases this
  have hc : 0 < c := Nat.pos_of_ne_zero fun e => by have := ok2.sign e; cases this
  have oka : Ok false a b := ⟨ok1.n32, ok1.d32, ok1.pos, ok1.gcd, fun _ => rfl⟩
  have okc : Ok false c d := ⟨ok2.n32, ok2.d32, ok2.pos, ok2.gcd, fun _ => rfl⟩
  have HSM := Lib.hid (fun W V U h1 h2 => rsimplest_c (d + b) W V U c d a b rfl h1 h2 okc oka hle)
  have hsp := simp_pos hc ok2.pos ok1.pos hle
  obtain ⟨y1, hy1⟩ : ∃ y1, (simpN c d a b).1 = y1 := ⟨_, rfl⟩
  obtain ⟨y2, hy2⟩ : ∃ y2, (simpN c d a b).2 = y2 := ⟨_, rfl⟩
  rw [hy1] at hsp
  rw [hy1, hy2] at hsf HSM
  have HS : Hid (RR = (fr true y1 y2, 0)) := hsf
  have HT1 : Hid (turnF (fr true c d) = fr false c d) := rturn_fr _ _ _
  have HT2 : Hid (turnF (fr true a b) = fr false a b) := rturn_fr _ _ _
  have HT3 : Hid (turnF (fr false y1 y2) = fr true y1 y2) := by show _ = _; rw [rturn_fr]; simp [hsp]
  clear hRR ho1 hsf hord hy1 hy2 hle oka okc ha hc hsp
  go_enter Try.func40, Try.ntmps40
  go_upto_region 1 with fail
  rw [← hW]
  clear hW
  obtain ⟨cX0, cX1, cX2⟩ := CX.out.cells3
  have ltX := CX.out.lt
  obtain ⟨cY0, cY1, cY2⟩ := CY.out.cells3
  have ltY := CY.out.lt
  obtain ⟨cR0, cR1, cR2⟩ := CR.out.cells3
  have ltR := CR.out.lt
  go_wp2_with fail
  refine (RValid_c _ _ (fr true a b) FX.out).mono ?_
  intro e w1 hr
  obtain ⟨rfl, hb1⟩ := hr.yes HV1.out
  clear hr
  clear cX0 cX1 cX2 ltX cY0 cY1 cY2 ltY cR0 cR1 cR2 ltR
  replace CX := Lib.hid (CX.out.after hb1)
  replace CY := Lib.hid (CY.out.after hb1)
  replace CR := Lib.hid (CR.out.after hb1)
  replace FX := Lib.hid (FX.out.after hb1)
  replace FY := Lib.hid (FY.out.after hb1)
  replace HB := Lib.hid (HB.out.trans (hb1.mono HB.out.size))
  clear hb1
  obtain ⟨cX0, cX1, cX2⟩ := CX.out.cells3
  have ltX := CX.out.lt
  obtain ⟨cY0, cY1, cY2⟩ := CY.out.cells3
  have ltY := CY.out.lt
  obtain ⟨cR0, cR1, cR2⟩ := CR.out.cells3
  have ltR := CR.out.lt
  go_wp2_with fail
  refine (RValid_c _ _ (fr true c d) FY.out).mono ?_
  intro e w2 hr
  obtain ⟨rfl, hb2⟩ := hr.yes HV2.out
  clear hr
  clear cX0 cX1 cX2 ltX cY0 cY1 cY2 ltY cR0 cR1 cR2 ltR
  replace CX := Lib.hid (CX.out.after hb2)
  replace CY := Lib.hid (CY.out.after hb2)
  replace CR := Lib.hid (CR.out.after hb2)
  replace FX := Lib.hid (FX.out.after hb2)
  replace FY := Lib.hid (FY.out.after hb2)
  replace HB := Lib.hid (HB.out.trans (hb2.mono HB.out.size))
  clear hb2
  obtain ⟨cX0, cX1, cX2⟩ := CX.out.cells3
  have ltX := CX.out.lt
  obtain ⟨cY0, cY1, cY2⟩ := CY.out.cells3
  have ltY := CY.out.lt
  obtain ⟨cR0, cR1, cR2⟩ := CR.out.cells3
  have ltR := CR.out.lt
  go_wp2_with fail
  refine (rorder_c _ _ _ true true a b c d FX.out FY.out (Nat.le_trans ok1.n32 (by omega)) (Nat.le_trans ok1.d32 (by omega)) (Nat.le_trans ok2.n32 (by omega)) (Nat.le_trans ok2.d32 (by omega))).mono ?_
  rw [HO.out]
  rintro e w3 ⟨rfl, hb3⟩
  clear cX0 cX1 cX2 ltX cY0 cY1 cY2 ltY cR0 cR1 cR2 ltR
  replace CX := Lib.hid (CX.out.after hb3)
  replace CY := Lib.hid (CY.out.after hb3)
  replace CR := Lib.hid (CR.out.after hb3)
  replace FX := Lib.hid (FX.out.after hb3)
  replace FY := Lib.hid (FY.out.after hb3)
  replace HB := Lib.hid (HB.out.trans (hb3.mono HB.out.size))
  clear hb3
  obtain ⟨cX0, cX1, cX2⟩ := CX.out.cells3
  have ltX := CX.out.lt
  obtain ⟨cY0, cY1, cY2⟩ := CY.out.cells3
  have ltY := CY.out.lt
  obtain ⟨cR0, cR1, cR2⟩ := CR.out.cells3
  have ltR := CR.out.lt
  go_upto_region 8 with fail
  clear cX0 cX1 cX2 ltX cY0 cY1 cY2 ltY cR0 cR1 cR2 ltR
  refine wp_region_gj (J := GJ _ (fun _ => SK (fun κ => match κ with | 0 => .eq (.agg #[.bool true, .slice pY (limbs c).length mY, .slice qY (limbs d).length nY]) | 1 => .isF (fr false c d) | 2 => .eq (.agg #[.bool true, .slice pX (limbs a).length mX, .slice qX (limbs b).length nX]) | 3 => .isF (fr false a b) | 4 => .isF (fr false y1 y2) | 5 => .isF (fr true y1 y2) | 7 => .eq (.int .i64 0) | _ => .any)) (CO1 w3 6 (w.heap.size + 2) (fr true y1 y2)) _) (by kernel_rfl) ?_ ?_ (GJ.start CO1.start)
  · intro listed a w9 i hr hj
    obtain ⟨hi12, hun, _, _, _⟩ := ready_mem hr
    have h12 : i ∈ List.range 8 := List.mem_range.2 hi12
    simp only [List.range, List.range.loop, List.mem_cons, List.not_mem_nil, or_false] at h12
    obtain ⟨f, rfl, hcm, hf⟩ := hj.opened [36, 37, 38, 39, 40, 41, 5] (by kernel_rfl)
    replace hcm : CO1 w3 6 (w.heap.size + 2) (fr true y1 y2) listed f w9 := hcm
    rcases h12 with rfl | rfl | rfl | rfl | rfl | rfl | rfl | rfl
    · have nO : ¬ up listed 6 := fun h => not_up hun (hj.closed 6 0 h (by kernel_rfl))
      have bw := hcm.1 nO
      obtain ⟨k0, k1, k2⟩ := (CY.out.after bw).cells3
      have klt := (CY.out.after bw).lt
      refine GJ.op hj (by kernel_rfl) hr rfl [36, 37, 38, 39, 40, 41, 5] (by kernel_rfl) (fun K hK => ?_)
      simp only [Act.put, List.foldl_cons, List.foldl_nil, List.setIfInBounds_toArray, List.set_cons_zero, List.set_cons_succ] at hK ⊢
      clear hj hf
      go_simp
      exact hK _ _ (fun k v _ _ h => h.keep (Below.refl _ _)) (fun t ht => SK.of (.eq (.agg #[.bool true, .slice pY (limbs c).length mY, .slice qY (limbs d).length nY])) rfl rfl) (hcm.keep (Below.refl _ _) (by omega))
    · have nO : ¬ up listed 6 := fun h => not_up hun (hj.closed 6 1 h (by kernel_rfl))
      have bw := hcm.1 nO
      have e1 : f 36 = .agg #[.bool true, .slice pY (limbs c).length mY, .slice qY (limbs d).length nY] := hf 0 _ _ rfl rfl (up_dep hr (by kernel_rfl))
      refine GJ.op hj (by kernel_rfl) hr rfl [36, 37, 38, 39, 40, 41, 5] (by kernel_rfl) (fun K hK => ?_)
      simp only [Act.put, List.foldl_cons, List.foldl_nil, List.setIfInBounds_toArray, List.set_cons_zero, List.set_cons_succ] at hK ⊢
      clear hj hf
      rw [e1] at hK ⊢
      clear e1
      go_simp
      refine (negated_c w9 _ (fr true c d) (FY.out.after bw)).mono ?_
      rw [HT1.out]
      rintro e w10 ⟨v10, rfl, hv10, hb10⟩
      exact hK _ _ (fun k v _ _ h => h.keep hb10) (fun t ht => SK.of (.isF (fr false c d)) rfl hv10) (hcm.keep hb10 (by omega))
    · have nO : ¬ up listed 6 := fun h => not_up hun (hj.closed 6 2 h (by kernel_rfl))
      have bw := hcm.1 nO
      obtain ⟨k0, k1, k2⟩ := (CX.out.after bw).cells3
      have klt := (CX.out.after bw).lt
      refine GJ.op hj (by kernel_rfl) hr rfl [36, 37, 38, 39, 40, 41, 5] (by kernel_rfl) (fun K hK => ?_)
      simp only [Act.put, List.foldl_cons, List.foldl_nil, List.setIfInBounds_toArray, List.set_cons_zero, List.set_cons_succ] at hK ⊢
      clear hj hf
      go_simp
      exact hK _ _ (fun k v _ _ h => h.keep (Below.refl _ _)) (fun t ht => SK.of (.eq (.agg #[.bool true, .slice pX (limbs a).length mX, .slice qX (limbs b).length nX])) rfl rfl) (hcm.keep (Below.refl _ _) (by omega))
    · have nO : ¬ up listed 6 := fun h => not_up hun (hj.closed 6 3 h (by kernel_rfl))
      have bw := hcm.1 nO
      have e1 : f 38 = .agg #[.bool true, .slice pX (limbs a).length mX, .slice qX (limbs b).length nX] := hf 2 _ _ rfl rfl (up_dep hr (by kernel_rfl))
      refine GJ.op hj (by kernel_rfl) hr rfl [36, 37, 38, 39, 40, 41, 5] (by kernel_rfl) (fun K hK => ?_)
      simp only [Act.put, List.foldl_cons, List.foldl_nil, List.setIfInBounds_toArray, List.set_cons_zero, List.set_cons_succ] at hK ⊢
      clear hj hf
      rw [e1] at hK ⊢
      clear e1
      go_simp
      refine (negated_c w9 _ (fr true a b) (FX.out.after bw)).mono ?_
      rw [HT2.out]
      rintro e w10 ⟨v10, rfl, hv10, hb10⟩
      exact hK _ _ (fun k v _ _ h => h.keep hb10) (fun t ht => SK.of (.isF (fr false a b)) rfl hv10) (hcm.keep hb10 (by omega))
    · have nO : ¬ up listed 6 := fun h => not_up hun (hj.closed 6 4 h (by kernel_rfl))
      have bw := hcm.1 nO
      have s1 : IsF w9 (f 37) (fr false c d) := hf 1 _ _ rfl rfl (up_dep hr (by kernel_rfl))
      have s2 : IsF w9 (f 39) (fr false a b) := hf 3 _ _ rfl rfl (up_dep hr (by kernel_rfl))
      refine GJ.op hj (by kernel_rfl) hr rfl [36, 37, 38, 39, 40, 41, 5] (by kernel_rfl) (fun K hK => ?_)
      simp only [Act.put, List.foldl_cons, List.foldl_nil, List.setIfInBounds_toArray, List.set_cons_zero, List.set_cons_succ] at hK ⊢
      clear hj hf
      go_simp
      refine (HSM.out w9 _ _ s1 s2).mono ?_
      rintro e w10 ⟨v10, rfl, hv10, hb10⟩
      exact hK _ _ (fun k v _ _ h => h.keep hb10) (fun t ht => SK.of (.isF (fr false y1 y2)) rfl hv10) (hcm.keep hb10 (by omega))
    · have nO : ¬ up listed 6 := fun h => not_up hun (hj.closed 6 5 h (by kernel_rfl))
      have bw := hcm.1 nO
      have s1 : IsF w9 (f 40) (fr false y1 y2) := hf 4 _ _ rfl rfl (up_dep hr (by kernel_rfl))
      refine GJ.op hj (by kernel_rfl) hr rfl [36, 37, 38, 39, 40, 41, 5] (by kernel_rfl) (fun K hK => ?_)
      simp only [Act.put, List.foldl_cons, List.foldl_nil, List.setIfInBounds_toArray, List.set_cons_zero, List.set_cons_succ] at hK ⊢
      clear hj hf
      go_simp
      refine (negated_c w9 _ (fr false y1 y2) s1).mono ?_
      rw [HT3.out]
      rintro e w10 ⟨v10, rfl, hv10, hb10⟩
      exact hK _ _ (fun k v _ _ h => h.keep hb10) (fun t ht => SK.of (.isF (fr true y1 y2)) rfl hv10) (hcm.keep hb10 (by omega))
    · have nO := not_up hun
      have bw := hcm.1 nO
      have bxw := CR.out.after bw
      have s1 : IsF w9 (f 41) (fr true y1 y2) := hf 5 _ _ rfl rfl (up_dep hr (by kernel_rfl))
      obtain ⟨ua, ub, e1, h1, h2⟩ := s1
      obtain ⟨pa, ca, rfl, _, _⟩ := h1.shape
      obtain ⟨pb, cb, rfl, _, _⟩ := h2.shape
      have hsz7 := hj.lsize
      have hlt : 6 < listed.size := by rw [hsz7]; decide
      refine GJ.op hj (by kernel_rfl) hr rfl [36, 37, 38, 39, 40, 41, 5] (by kernel_rfl) (fun K hK => ?_)
      simp only [Act.put, List.foldl_cons, List.foldl_nil, List.setIfInBounds_toArray, List.set_cons_zero, List.set_cons_succ] at hK ⊢
      clear hj hf
      obtain ⟨zb, hzb⟩ : ∃ z, f 41 = z := ⟨_, rfl⟩
      rw [hzb] at hK ⊢ e1
      subst e1
      clear hzb
      have y0 := (Box.cells3 bxw).1
      have y1 := (Box.cells3 bxw).2.1
      have y2 := (Box.cells3 bxw).2.2
      have yl := bxw.lt
      have q0 := bxw.frozen 0
      have q1 := bxw.frozen 1
      have q2 := bxw.frozen 2
      have BXW := Lib.hid bxw
      clear bxw
      go_simp
      exact hK undef _ (fun k v _ _ h => h.fx (fx_set3 _ _ _ _) (Box.noT BXW.out)) (fun t ht => by cases ht) (hcm.put nO hlt BXW.out h1 h2)
    · refine GJ.op hj (by kernel_rfl) hr rfl [36, 37, 38, 39, 40, 41, 5] (by kernel_rfl) (fun K hK => ?_)
      simp only [Act.put, List.foldl_cons, List.foldl_nil, List.setIfInBounds_toArray, List.set_cons_zero, List.set_cons_succ] at hK ⊢
      clear hj hf
      go_simp
      exact hK _ _ (fun k v _ _ h => h.keep (Below.refl _ _)) (fun t ht => SK.of (.eq (.int .i64 0)) rfl rfl) (hcm.keep (Below.refl _ _) (by omega))
  · intro listed a w31 hr hj
    have hu : ∀ k, k < 8 → up listed k := fun k hk => all_up (by kernel_rfl) hj.lsize hr k hk
    obtain ⟨f, rfl, hcm, hf⟩ := hj.opened [36, 37, 38, 39, 40, 41, 5] (by kernel_rfl)
    replace hcm : CO1 w3 6 (w.heap.size + 2) (fr true y1 y2) listed f w31 := hcm
    obtain ⟨hfx, va, vb, hbx, g1, g2⟩ := hcm.2 (hu 6 (by omega))
    have e5 : f 5 = .int .i64 0 := hf 7 _ _ rfl rfl (hu 7 (by omega))
    obtain ⟨y0, y1', y2'⟩ := hbx.cells3
    obtain ⟨pz, cz, rfl, _, _⟩ := g1.shape
    obtain ⟨pz', cz', rfl, _, _⟩ := g2.shape
    have HB9 := Lib.hid (HB.out.trans (hfx.toBelow HB.out.size (fun g e => by rw [e]; omega)))
    have G1 := Lib.hid g1
    have G2 := Lib.hid g2
    clear hcm hf hj hr hu hfx hbx g1 g2
    simp only [List.foldl_cons, List.foldl_nil, List.setIfInBounds_toArray, List.set_cons_zero, List.set_cons_succ]
    rw [e5]
    clear e5
    generalize f 36 = g36
    generalize f 37 = g37
    generalize f 38 = g38
    generalize f 39 = g39
    generalize f 40 = g40
    generalize f 41 = g41
    clear f
    go_wp2_with fail
    refine bodyPost_ret (v := .tuple #[.agg #[.bool true, .slice pz (limbs y1).length cz, .slice pz' (limbs y2).length cz'], .int .i64 0]) (by simp [results, Try.results40, go_sem, y0, y1', y2', fr]) rfl ?_
    rw [HS.out]
    exact ⟨_, rfl, ⟨_, _, rfl, G1.out, G2.out⟩, HB9.out⟩
set_option maxRecDepth 100000 in
set_option maxHeartbeats 4000000 in
theorem rSimplest_bad (w : World) (v u : Value) (x y : F) (h : IsF w v x) (k : IsF w u y) (hn : ¬ (ValidF x ∧ ValidF y)) : Calls Try.prog 40 #[v, u] w (RetF w (simplestF x y)) := by
  have HX := h
  have HY := k
  obtain ⟨va, vb, rfl, _, _⟩ := h
  obtain ⟨vc, vd, rfl, _, _⟩ := k
  obtain ⟨W0, hW, bx, by', br, hsz, hb0⟩ := start3 w #[.bool x.neg, va, vb] #[.bool y.neg, vc, vd] #[.bool false, .slice none 0 0, .slice none 0 0] 25
  obtain ⟨c0, c1, c2⟩ := bx.cells3
  obtain ⟨d0, d1, d2⟩ := by'.cells3
  have H1 := Lib.hid (HX.after hb0)
  have H2 := Lib.hid (HY.after hb0)
  have HB0 := Lib.hid hb0
  have BX := Lib.hid bx
  have BY := Lib.hid by'
  have BR := Lib.hid br
  clear HX HY bx by' br hb0
  by_cases hx : ValidF x
  · have HVX := Lib.hid hx
    clear hx
    by_cases hy : ValidF y
    · have HVY := Lib.hid hy
      clear hy
      exact absurd ⟨HVX.out, HVY.out⟩ hn
    · have HVY := Lib.hid hy
      have hno : Hid (simplestF x y = (F0, 1)) := simplestF_no fun hh => hy hh.2
      clear hy
      go_enter Try.func40, Try.ntmps40
      go_upto_region 1 with fail
      rw [← hW]
      clear hW
      go_wp2_with fail
      refine (RValid_c _ _ _ H1.out).mono ?_
      intro e w1 hr
      obtain ⟨rfl, hb1⟩ := hr.yes HVX.out
      obtain ⟨d0', d1', d2'⟩ := (BY.out.after hb1).cells3
      have K2 := Lib.hid (H2.out.after hb1)
      have BR1 := Lib.hid (BR.out.after hb1)
      have KW := Lib.hid (HB0.out.trans (hb1.mono HB0.out.size))
      clear hr hb1 c0 c1 c2 d0 d1 d2 H1 H2 BX BY BR HB0
      go_wp2_with fail
      refine (RValid_c _ _ _ K2.out).mono ?_
      intro e w2 hr
      obtain ⟨rfl, hb1⟩ := hr.no HVY.out
      have bx5 := BR1.out.after hb1
      obtain ⟨r0, r1, r2⟩ := bx5.cells3
      have f0 := bx5.frozen 0
      have f1 := bx5.frozen 1
      have f2 := bx5.frozen 2
      have BW5 := Lib.hid (KW.out.trans (hb1.mono KW.out.size))
      clear hr hb1 bx5 K2 d0' d1' d2'
      go_wp2_with fail
      refine bodyPost_ret (v := .tuple #[.agg #[.bool false, .slice none 0 0, .slice none 0 0], .int .i64 1]) (by simp [results, Try.results40, go_sem, r0, r1, r2]) rfl ?_
      rw [hno.out]
      exact ⟨_, rfl, IsF.zero _, ((BW5.out.setCell (p := ⟨w.heap.size + 2, 0, none⟩) (by simp) _).setCell (p := ⟨w.heap.size + 2, 1, none⟩) (by simp) _).setCell (p := ⟨w.heap.size + 2, 2, none⟩) (by simp) _⟩
  · have HVX := Lib.hid hx
    have hno : Hid (simplestF x y = (F0, 1)) := simplestF_no fun hh => hx hh.1
    clear hx
    go_enter Try.func40, Try.ntmps40
    go_upto_region 1 with fail
    rw [← hW]
    clear hW
    go_wp2_with fail
    refine (RValid_c _ _ _ H1.out).mono ?_
    intro e w1 hr
    obtain ⟨rfl, hb1⟩ := hr.no HVX.out
    have bx5 := BR.out.after hb1
    obtain ⟨r0, r1, r2⟩ := bx5.cells3
    have f0 := bx5.frozen 0
    have f1 := bx5.frozen 1
    have f2 := bx5.frozen 2
    have BW5 := Lib.hid (HB0.out.trans (hb1.mono HB0.out.size))
    clear hr hb1 bx5 c0 c1 c2 d0 d1 d2 H1 H2
    go_wp2_with fail
    refine bodyPost_ret (v := .tuple #[.agg #[.bool false, .slice none 0 0, .slice none 0 0], .int .i64 1]) (by simp [results, Try.results40, go_sem, r0, r1, r2]) rfl ?_
    rw [hno.out]
    exact ⟨_, rfl, IsF.zero _, ((BW5.out.setCell (p := ⟨w.heap.size + 2, 0, none⟩) (by simp) _).setCell (p := ⟨w.heap.size + 2, 1, none⟩) (by simp) _).setCell (p := ⟨w.heap.size + 2, 2, none⟩) (by simp) _⟩
theorem rSimplest_c (w : World) (v u : Value) (x y : F) (h : IsF w v x) (k : IsF w u y) : Calls Try.prog 40 #[v, u] w (RetF w (simplestF x y)) := by
  by_cases hv : ValidF x ∧ ValidF y
  · obtain ⟨s, a, b, rfl, ok1⟩ : ∃ s a b, x = fr s a b ∧ Ok s a b := ⟨_, _, _, hv.1.eq, hv.1.2.2⟩
    obtain ⟨t, c, d, rfl, ok2⟩ : ∃ s a b, y = fr s a b ∧ Ok s a b := ⟨_, _, _, hv.2.eq, hv.2.2.2⟩
    by_cases ho : 0 < ordN s a b t c d
    · exact rSimplest_empty w v u s t a b c d h k ok1 ok2 ho
    · cases t with
      | true =>
        cases s with
        | true => exact rSimplest_below w v u a b c d h k ok1 ok2 ho
        | false => exact absurd ord_bad ho
      | false =>
        cases s with
        | true => exact rSimplest_neg w v u a b c d h k ok1 ok2 ho
        | false =>
          rcases Nat.eq_zero_or_pos a with h0 | h0
          · subst h0; exact rSimplest_nil w v u b c d h k ok1 ok2 ho
          · exact rSimplest_above w v u a b c d h k ok1 ok2 h0 ho
  · exact rSimplest_bad w v u x y h k hv
end Go.Proofs.Ytaojdlcailpheaa
