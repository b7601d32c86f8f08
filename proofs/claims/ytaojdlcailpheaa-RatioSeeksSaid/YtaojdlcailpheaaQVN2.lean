/- Walks of the reference: Nearest. -/
import Derived.Test.YtaojdlcailpheaaQVN
set_option linter.unusedVariables false
namespace Go.Proofs.Ytaojdlcailpheaa
open Go.RowKit

theorem VarF.of2 {w : World} {b : Nat} {x : F} {va vb : Value} (h : Box w b #[.bool x.neg, va, vb] 25) (k : IsF w (.agg #[.bool x.neg, va, vb]) x) : VarF w b x := by
  obtain ⟨_, h1, h2⟩ := k.parts
  exact ⟨va, vb, h, h1, h2⟩
theorem Sl_1a (w : World) (o : Obj) : Sl ((w.alloc o).alloc (.cells #[.int .u32 1] 51)) (.slice (some ⟨w.heap.size + 1, 0, none⟩) 1 1) (limbs 1) := by
  have h := Sl_1 (w.alloc o)
  rw [World.size_alloc] at h
  exact h
theorem Fx.after {S : Nat → Prop} {w W W' : World} (h : Fx S w W) (hb : Below W.heap.size W W') : Fx S w W' := h.below hb
theorem closer_is {s t g : Bool} {a b c d e f : Nat} (hb : 0 < b) : decide (distN s a b t c d * (b * f) < distN s a b g e f * (b * d)) = decide (dN (sg s a) b (sg t c) d * f < dN (sg s a) b (sg g e) f * d) := by
  rw [dist_dN, dist_dN, decide_eq_decide]
  have e1 : dN (sg s a) b (sg t c) d * (b * f) = b * (dN (sg s a) b (sg t c) d * f) := by grind
  have e2 : dN (sg s a) b (sg g e) f * (b * d) = b * (dN (sg s a) b (sg g e) f * d) := by grind
  rw [e1, e2]
  exact ⟨fun h => Nat.lt_of_mul_lt_mul_left h, fun h => Nat.mul_lt_mul_of_pos_left h hb⟩
theorem order_is {s t : Bool} {a b c d : Nat} (h : Ok s a b) (k : Ok t c d) : decide (ordN s a b t c d < 0) = decide (sg s a * d < sg t c * b) := by
  rw [ordN_sg s t a b c d h.pos k.pos h.sign k.sign, decide_eq_decide]
  by_cases g1 : sg s a * d < sg t c * b
  · rw [if_pos g1]; simp [g1]
  · rw [if_neg g1]; split <;> simp [g1]

set_option maxRecDepth 100000 in
set_option maxHeartbeats 8000000 in
theorem rNearest_bad (w : World) (v : Value) (x : F) (N : Int) (h : IsF w v x) (hn : ¬ ValidF x) : Calls Try.prog 42 #[v, .int .i64 N] w (RetF w (nearF x N)) := by
  obtain ⟨va, vb, rfl, h1, h2⟩ := h
  have hX0 : IsF w (.agg #[.bool x.neg, va, vb]) x := ⟨_, _, rfl, h1, h2⟩
  obtain ⟨W0, hW, bx, br, hsz, hb0⟩ := start2 w #[.bool x.neg, va, vb] #[.bool false, .slice none 0 0, .slice none 0 0] 25
  have FX := Lib.hid (hX0.after hb0)
  have HB := Lib.hid hb0
  have CX := Lib.hid bx
  have CR := Lib.hid br
  have HV := Lib.hid hn
  have HS := Lib.hid (nearF_no (N := N) hn)
  clear h1 h2 hX0 hb0 bx br hsz hn
  go_enter Try.func42, Try.ntmps42
  go_upto_region 1 with fail
  rw [← hW]
  clear hW
  obtain ⟨cX0, cX1, cX2⟩ := CX.out.cells3
  have ltX := CX.out.lt
  obtain ⟨cR0, cR1, cR2⟩ := CR.out.cells3
  have ltR := CR.out.lt
  go_wp2_with fail
  refine (RValid_c _ _ x FX.out).mono ?_
  intro e w1 hr
  obtain ⟨rfl, hb1⟩ := hr.no HV.out
  clear hr
  clear cX0 cX1 cX2 ltX cR0 cR1 cR2 ltR
  replace CX := Lib.hid (CX.out.after hb1)
  replace CR := Lib.hid (CR.out.after hb1)
  replace FX := Lib.hid (FX.out.after hb1)
  replace HB := Lib.hid (HB.out.trans (hb1.mono HB.out.size))
  clear hb1
  obtain ⟨cX0, cX1, cX2⟩ := CX.out.cells3
  have ltX := CX.out.lt
  obtain ⟨cR0, cR1, cR2⟩ := CR.out.cells3
  have ltR := CR.out.lt
  have zR0 := CR.out.frozen 0
  have zR1 := CR.out.frozen 1
  have zR2 := CR.out.frozen 2
  go_wp2_with fail
  refine bodyPost_ret (v := .tuple #[.agg #[.bool false, .slice none 0 0, .slice none 0 0], .int .i64 1]) (by simp [results, Try.results42, go_sem, cR0, cR1, cR2]) rfl ?_
  rw [HS.out]
  exact ⟨_, rfl, IsF.zero _, ((HB.out.setCell (p := ⟨w.heap.size + 1, 0, none⟩) (by simp) _).setCell (p := ⟨w.heap.size + 1, 1, none⟩) (by simp) _).setCell (p := ⟨w.heap.size + 1, 2, none⟩) (by simp) _⟩
set_option maxRecDepth 100000 in
set_option maxHeartbeats 8000000 in
theorem rNearest_far (w : World) (v : Value) (s : Bool) (a b : Nat) (N : Int) (h : IsF w v (fr s a b)) (ok : Ok s a b) (hn : N < 1 ∨ 1000 < N) : Calls Try.prog 42 #[v, .int .i64 N] w (RetF w (nearF (fr s a b) N)) := by
  obtain ⟨va, vb, rfl, h1, h2⟩ := h
  obtain ⟨pX, mX, rfl, _, _⟩ := h1.shape
  obtain ⟨qX, nX, rfl, _, _⟩ := h2.shape
  have hX0 : IsF w (.agg #[.bool s, .slice pX (limbs a).length mX, .slice qX (limbs b).length nX]) (fr s a b) := ⟨_, _, rfl, h1, h2⟩
  show Calls _ _ #[.agg #[.bool s, .slice pX (limbs a).length mX, .slice qX (limbs b).length nX], .int .i64 N] w _
  obtain ⟨W0, hW, bx, br, hsz, hb0⟩ := start2 w #[.bool s, .slice pX (limbs a).length mX, .slice qX (limbs b).length nX] #[.bool false, .slice none 0 0, .slice none 0 0] 25
  have FX := Lib.hid (hX0.after hb0)
  have HB := Lib.hid hb0
  have CX := Lib.hid bx
  have CR := Lib.hid br
  have HV := Lib.hid (validF_fr.2 ok)
  clear h1 h2 hX0 hb0 bx br hsz
  have HS : Hid (nearF (fr s a b) N = (F0, 2)) := by show _ = _; rw [nearF_fr ok, if_pos hn]
  by_cases h1 : N < 1
  · have hd1 : decide (N < 1) = true := decide_eq_true h1
    clear hn h1
    go_enter Try.func42, Try.ntmps42
    go_upto_region 1 with fail
    rw [← hW]
    clear hW
    obtain ⟨cX0, cX1, cX2⟩ := CX.out.cells3
    have ltX := CX.out.lt
    obtain ⟨cR0, cR1, cR2⟩ := CR.out.cells3
    have ltR := CR.out.lt
    go_wp2_with fail
    refine (RValid_c _ _ (fr s a b) FX.out).mono ?_
    intro e w1 hr
    obtain ⟨rfl, hb1⟩ := hr.yes HV.out
    clear hr
    clear cX0 cX1 cX2 ltX cR0 cR1 cR2 ltR
    replace CX := Lib.hid (CX.out.after hb1)
    replace CR := Lib.hid (CR.out.after hb1)
    replace FX := Lib.hid (FX.out.after hb1)
    replace HB := Lib.hid (HB.out.trans (hb1.mono HB.out.size))
    clear hb1
    obtain ⟨cX0, cX1, cX2⟩ := CX.out.cells3
    have ltX := CX.out.lt
    obtain ⟨cR0, cR1, cR2⟩ := CR.out.cells3
    have ltR := CR.out.lt
    have zR0 := CR.out.frozen 0
    have zR1 := CR.out.frozen 1
    have zR2 := CR.out.frozen 2
    go_wp2_with fail
    refine bodyPost_ret (v := .tuple #[.agg #[.bool false, .slice none 0 0, .slice none 0 0], .int .i64 2]) (by simp [results, Try.results42, go_sem, cR0, cR1, cR2]) rfl ?_
    rw [HS.out]
    exact ⟨_, rfl, IsF.zero _, ((HB.out.setCell (p := ⟨w.heap.size + 1, 0, none⟩) (by simp) _).setCell (p := ⟨w.heap.size + 1, 1, none⟩) (by simp) _).setCell (p := ⟨w.heap.size + 1, 2, none⟩) (by simp) _⟩
  · have hd1 : decide (N < 1) = false := decide_eq_false h1
    have hd2 : decide (1000 < N) = true := decide_eq_true (by omega)
    clear hn h1
    go_enter Try.func42, Try.ntmps42
    go_upto_region 1 with fail
    rw [← hW]
    clear hW
    obtain ⟨cX0, cX1, cX2⟩ := CX.out.cells3
    have ltX := CX.out.lt
    obtain ⟨cR0, cR1, cR2⟩ := CR.out.cells3
    have ltR := CR.out.lt
    go_wp2_with fail
    refine (RValid_c _ _ (fr s a b) FX.out).mono ?_
    intro e w1 hr
    obtain ⟨rfl, hb1⟩ := hr.yes HV.out
    clear hr
    clear cX0 cX1 cX2 ltX cR0 cR1 cR2 ltR
    replace CX := Lib.hid (CX.out.after hb1)
    replace CR := Lib.hid (CR.out.after hb1)
    replace FX := Lib.hid (FX.out.after hb1)
    replace HB := Lib.hid (HB.out.trans (hb1.mono HB.out.size))
    clear hb1
    obtain ⟨cX0, cX1, cX2⟩ := CX.out.cells3
    have ltX := CX.out.lt
    obtain ⟨cR0, cR1, cR2⟩ := CR.out.cells3
    have ltR := CR.out.lt
    have zR0 := CR.out.frozen 0
    have zR1 := CR.out.frozen 1
    have zR2 := CR.out.frozen 2
    go_wp2_with fail
    refine bodyPost_ret (v := .tuple #[.agg #[.bool false, .slice none 0 0, .slice none 0 0], .int .i64 2]) (by simp [results, Try.results42, go_sem, cR0, cR1, cR2]) rfl ?_
    rw [HS.out]
    exact ⟨_, rfl, IsF.zero _, ((HB.out.setCell (p := ⟨w.heap.size + 1, 0, none⟩) (by simp) _).setCell (p := ⟨w.heap.size + 1, 1, none⟩) (by simp) _).setCell (p := ⟨w.heap.size + 1, 2, none⟩) (by simp) _⟩
set_option maxRecDepth 100000 in
set_option maxHeartbeats 8000000 in
theorem rNearest_in (w : World) (v : Value) (s : Bool) (a b N : Nat) (h : IsF w v (fr s a b)) (ok : Ok s a b) (h1 : 1 ≤ N) (h2 : N ≤ 1000) : Calls Try.prog 42 #[v, .int .i64 (N : Int)] w (RetF w (nearF (fr s a b) (N : Int))) := by
  obtain ⟨va, vb, rfl, h1, h2⟩ := h
  obtain ⟨pX, mX, rfl, _, _⟩ := h1.shape
  obtain ⟨qX, nX, rfl, _, _⟩ := h2.shape
  have hX0 : IsF w (.agg #[.bool s, .slice pX (limbs a).length mX, .slice qX (limbs b).length nX]) (fr s a b) := ⟨_, _, rfl, h1, h2⟩
  show Calls _ _ #[.agg #[.bool s, .slice pX (limbs a).length mX, .slice qX (limbs b).length nX], .int .i64 (N : Int)] w _
  obtain ⟨W0, hW, bx, br, hsz, hb0⟩ := start2 w #[.bool s, .slice pX (limbs a).length mX, .slice qX (limbs b).length nX] #[.bool false, .slice none 0 0, .slice none 0 0] 25
  have FX := Lib.hid (hX0.after hb0)
  have HB := Lib.hid hb0
  have CX := Lib.hid bx
  have CR := Lib.hid br
  have HV := Lib.hid (validF_fr.2 ok)
  clear h1 h2 hX0 hb0 bx br hsz
  have hpos := ok.pos
  obtain ⟨RR, hRR⟩ : ∃ RR, nearF (fr s a b) (N : Int) = RR := ⟨_, rfl⟩
  rw [hRR]
  have HFIN : Hid (∀ u p q, NrI s a b N (N + 1) 0 u p q → RR = (fr u p q, 0)) := fun u p q h => by rw [← hRR]; exact h.done ok h1 h2
  obtain ⟨u0, hu0⟩ : ∃ u0, (s && decide (0 < floorN s a b)) = u0 := ⟨_, rfl⟩
  obtain ⟨p0, hp0⟩ : ∃ p0, floorN s a b = p0 := ⟨_, rfl⟩
  have hfl := floorF_yes ok
  rw [hu0, hp0] at hfl
  have HFL := Lib.hid hfl
  have ok0 : Ok u0 p0 1 := by
    have h3 := floorN_len ok
    rw [hp0] at h3 hu0
    exact ⟨h3, by rw [limbs_one]; simp, by omega, Nat.gcd_one_right _, fun e => by rw [← hu0, e]; simp⟩
  have HNR : Hid (NrI s a b N 1 0 u0 p0 1) := NrI.start ok0 h1
  have hd1 : decide ((N : Int) < 1) = false := decide_eq_false (by omega)
  have hd2 : decide (1000 < (N : Int)) = false := decide_eq_false (by omega)
  have hd3 : decide (N < 1) = false := decide_eq_false (by omega)
  have hd4 : decide (1000 < N) = false := decide_eq_false (by omega)
  have LA := Lib.hid ok.n32
  have LB := Lib.hid ok.d32
  clear hRR hu0 hp0 hfl ok0
  go_enter Try.func42, Try.ntmps42
  go_upto_region 1 with fail
  rw [← hW]
  clear hW
  obtain ⟨cX0, cX1, cX2⟩ := CX.out.cells3
  have ltX := CX.out.lt
  obtain ⟨cR0, cR1, cR2⟩ := CR.out.cells3
  have ltR := CR.out.lt
  go_wp2_with fail
  refine (RValid_c _ _ (fr s a b) FX.out).mono ?_
  intro e w1 hr
  obtain ⟨rfl, hb1⟩ := hr.yes HV.out
  clear hr
  clear cX0 cX1 cX2 ltX cR0 cR1 cR2 ltR
  replace CX := Lib.hid (CX.out.after hb1)
  replace CR := Lib.hid (CR.out.after hb1)
  replace FX := Lib.hid (FX.out.after hb1)
  replace HB := Lib.hid (HB.out.trans (hb1.mono HB.out.size))
  clear hb1
  obtain ⟨cX0, cX1, cX2⟩ := CX.out.cells3
  have ltX := CX.out.lt
  obtain ⟨cR0, cR1, cR2⟩ := CR.out.cells3
  have ltR := CR.out.lt
  go_wp2_with fail
  refine (rFloor_c _ _ (fr s a b) FX.out).mono ?_
  rw [HFL.out]
  rintro e w2 ⟨v, rfl, hv, hb2⟩
  have hv : IsF _ v (fr u0 p0 1) := hv
  obtain ⟨va, vb, rfl, h1, h2⟩ := hv
  obtain ⟨pB, mB, rfl, _, _⟩ := h1.shape
  obtain ⟨qB, nB, rfl, _, _⟩ := h2.shape
  have FB := Lib.hid (IsF.at_ h1 h2)
  clear h1 h2
  clear cX0 cX1 cX2 ltX cR0 cR1 cR2 ltR
  replace CX := Lib.hid (CX.out.after hb2)
  replace CR := Lib.hid (CR.out.after hb2)
  replace FX := Lib.hid (FX.out.after hb2)
  replace HB := Lib.hid (HB.out.trans (hb2.mono HB.out.size))
  clear hb2
  have d_X_B : w.heap.size < w2.heap.size := CX.out.lt
  have d_R_B : (w.heap.size + 1) < w2.heap.size := CR.out.lt
  have g_B : w.heap.size ≤ w2.heap.size := by have := HB.out.size; omega
  obtain ⟨cX0, cX1, cX2⟩ := CX.out.cells3
  have ltX := CX.out.lt
  obtain ⟨cR0, cR1, cR2⟩ := CR.out.cells3
  have ltR := CR.out.lt
  go_upto_region 6 with fail
  clear cX0 cX1 cX2 ltX cR0 cR1 cR2 ltR
  obtain ⟨w30, hw⟩ : ∃ w30, w30 = w2.alloc (.cells #[.bool (fr u0 p0 1).neg, .slice pB (fr u0 p0 1).num.length mB, .slice qB (fr u0 p0 1).den.length nB] 25) := ⟨_, rfl⟩
  obtain ⟨hb2, CB⟩ := after_new (below_same hw)
  rw [← hw]
  clear hw
  replace FX := Lib.hid (FX.out.after hb2)
  replace FB := Lib.hid (FB.out.after hb2)
  replace CX := Lib.hid (CX.out.after hb2)
  replace CR := Lib.hid (CR.out.after hb2)
  replace HB := Lib.hid (HB.out.trans (hb2.mono HB.out.size))
  clear hb2
  obtain ⟨BB, hBB⟩ : ∃ BB, w2.heap.size = BB := ⟨_, rfl⟩
  rw [hBB] at CB d_X_B d_R_B g_B ⊢
  clear hBB
  have HV0 : Hid (VarF w30 BB (fr u0 p0 1)) := VarF.of2 CB FB.out
  have HNT := Lib.hid (Box.noT CB)
  have HLB : BB < w30.heap.size := CB.lt
  clear CB FB
  go_wp2_with fail
  go_loopg [8] N (fun g t wx => ∃ d : Nat, 1 ≤ d ∧ d ≤ N + 1 ∧ g = N + 1 - d ∧ t = .int .i64 (d : Int) ∧ ∃ (u : Bool) (p q : Nat), Hid (NrI s a b N d 0 u p q) ∧ Hid (VarF wx BB (fr u p q)) ∧ Hid (Fx (fun g => g = BB) w30 wx))
  case atStart => exact ⟨1, by omega, by omega, rfl, rfl, u0, p0, 1, HNR.out, HV0.out, Fx.refl _ _⟩
  case round =>
    obtain ⟨d, hd1, hdN, rfl, rfl, u, p, q, hnr, hvB, hfx⟩ := hrel
    clear HV0 HNR hd3 hd4
    replace CX := Lib.hid (Box.fx CX.out hfx.out (by omega))
    replace CR := Lib.hid (Box.fx CR.out hfx.out (by omega))
    replace FX := Lib.hid (FX.out.fxr hfx.out HNT.out)
    have HNTr : Hid (∀ g, g = BB → ¬ Tag32 wr g) := by
      obtain ⟨_, _, hbx, _, _⟩ := hvB.out
      exact Box.noT hbx
    replace HB := Lib.hid (HB.out.trans (hfx.out.toBelow HB.out.size (fun g e => by rw [e]; exact g_B)))
    by_cases hlt : d ≤ N
    · have hdl : decide ((d : Int) ≤ (N : Int)) = true := decide_eq_true (by omega)
      have hdl2 : decide (d ≤ N) = true := decide_eq_true hlt
      have hd0 : 0 < d := hd1
      have HFX := Lib.hid hfx.out
      have HVB := Lib.hid hvB.out
      clear hfx hvB
      obtain ⟨Q, hQd⟩ : ∃ Q, a * d / b = Q := ⟨_, rfl⟩
      have HQD := Lib.hid hQd
      have LD : Hid ((limbs d).length ≤ 1) := limbs_len_lt (k := 1) (by omega)
      have LAD : Hid ((limbs (a * d)).length ≤ 33) := by show _ ≤ _; have h1 := limbs_mul_len a d; have h2 := LA.out; have h3 := LD.out; omega
      have LQ : Hid (∀ i, i ≤ 2 → (limbs (Q + i)).length ≤ 40) := fun i hi => by
        have h1 := limbs_len_mono (show Q ≤ a * d by rw [← HQD.out]; exact Nat.div_le_self _ _)
        have h2 := LAD.out
        have h3 := limbs_add_len Q i
        have h4 : (limbs i).length ≤ 1 := limbs_len_lt (k := 1) (by omega)
        omega
      clear hQd
      obtain ⟨_, i1, i2⟩ := FX.out.parts
      replace i1 : Sl _ _ (limbs (a)) := i1
      replace i2 : Sl _ _ (limbs (b)) := i2
      have FXN := Lib.hid i1
      have FXD := Lib.hid i2
      clear i1 i2
      obtain ⟨cX0, cX1, cX2⟩ := CX.out.cells3
      have ltX := CX.out.lt
      obtain ⟨cR0, cR1, cR2⟩ := CR.out.cells3
      have ltR := CR.out.lt
      go_wp2_with fail
      refine (From_c d (by omega) _).mono ?_
      rintro e w3 ⟨v, rfl, hv, hb3⟩
      have hv : Sl _ v (limbs d) := hv
      obtain ⟨pK, qK, rfl, _, _⟩ := hv.shape
      have FK := Lib.hid hv
      clear hv
      clear cX0 cX1 cX2 ltX cR0 cR1 cR2 ltR
      replace CX := Lib.hid (CX.out.after hb3)
      replace CR := Lib.hid (CR.out.after hb3)
      replace FX := Lib.hid (FX.out.after hb3)
      replace FXN := Lib.hid (FXN.out.after hb3)
      replace FXD := Lib.hid (FXD.out.after hb3)
      replace HFX := Lib.hid (HFX.out.after hb3)
      replace HVB := Lib.hid (HVB.out.after hb3)
      replace HB := Lib.hid (HB.out.trans (hb3.mono HB.out.size))
      clear hb3
      obtain ⟨cX0, cX1, cX2⟩ := CX.out.cells3
      have ltX := CX.out.lt
      obtain ⟨cR0, cR1, cR2⟩ := CR.out.cells3
      have ltR := CR.out.lt
      go_upto_region 10 with fail
      clear cX0 cX1 cX2 ltX cR0 cR1 cR2 ltR
      refine wp_region_gj (J := GJ _ (fun _ => SK (fun κ => match κ with | 0 => .eq (.pointer (some ⟨w.heap.size, 1, none⟩)) | 1 => .eq (.slice pX (limbs a).length mX) | 2 => .eq (.slice pK (limbs d).length qK) | 3 => .nat (a * d) | 4 => .eq (.pointer (some ⟨w.heap.size, 2, none⟩)) | 5 => .eq (.slice qX (limbs b).length nX) | 6 => .two (Q) (a * d % b) | 7 => .two (Q) (a * d % b) | 8 => .nat (Q) | 9 => .nat (a * d % b) | 10 => .nat (Q) | 11 => .nat (a * d % b) | _ => .any)) (fun _ _ w => Below w3.heap.size w3 w) _) (by kernel_rfl) ?_ ?_ (GJ.start (below_dr (Below.refl _ _)))
      · intro listed a w9 i hr hj
        obtain ⟨hi12, hun, _, _, _⟩ := ready_mem hr
        have h12 : i ∈ List.range 12 := List.mem_range.2 hi12
        simp only [List.range, List.range.loop, List.mem_cons, List.not_mem_nil, or_false] at h12
        obtain ⟨f, rfl, hcm, hf⟩ := hj.opened [40, 41, 42, 43, 44, 45, 46, 39, 47, 48, 10, 11] (by kernel_rfl)
        replace hcm : Below w3.heap.size w3 w9 := hcm
        rcases h12 with rfl | rfl | rfl | rfl | rfl | rfl | rfl | rfl | rfl | rfl | rfl | rfl
        · have klt := (CX.out.after hcm).lt
          refine GJ.op hj (by kernel_rfl) hr rfl [40, 41, 42, 43, 44, 45, 46, 39, 47, 48, 10, 11] (by kernel_rfl) (fun K hK => ?_)
          simp only [Act.put, List.foldl_cons, List.foldl_nil, List.setIfInBounds_toArray, List.set_cons_zero, List.set_cons_succ] at hK ⊢
          clear hj hf
          go_simp
          exact hK _ _ (fun k v _ _ h => h.keep (Below.refl _ _)) (fun t ht => SK.of (.eq (.pointer (some ⟨w.heap.size, 1, none⟩))) rfl rfl) (hcm.trans ((Below.refl _ _).mono hcm.size))
        · have e1 : f 40 = .pointer (some ⟨w.heap.size, 1, none⟩) := hf 0 _ _ rfl rfl (up_dep hr (by kernel_rfl))
          obtain ⟨k0, k1, k2⟩ := (CX.out.after hcm).cells3
          have klt := (CX.out.after hcm).lt
          refine GJ.op hj (by kernel_rfl) hr rfl [40, 41, 42, 43, 44, 45, 46, 39, 47, 48, 10, 11] (by kernel_rfl) (fun K hK => ?_)
          simp only [Act.put, List.foldl_cons, List.foldl_nil, List.setIfInBounds_toArray, List.set_cons_zero, List.set_cons_succ] at hK ⊢
          clear hj hf
          rw [e1] at hK ⊢
          clear e1
          go_simp
          exact hK _ _ (fun k v _ _ h => h.keep (Below.refl _ _)) (fun t ht => SK.of (.eq (.slice pX (limbs a).length mX)) rfl rfl) (hcm.trans ((Below.refl _ _).mono hcm.size))
        · refine GJ.op hj (by kernel_rfl) hr rfl [40, 41, 42, 43, 44, 45, 46, 39, 47, 48, 10, 11] (by kernel_rfl) (fun K hK => ?_)
          simp only [Act.put, List.foldl_cons, List.foldl_nil, List.setIfInBounds_toArray, List.set_cons_zero, List.set_cons_succ] at hK ⊢
          clear hj hf
          go_simp
          exact hK _ _ (fun k v _ _ h => h.keep (Below.refl _ _)) (fun t ht => SK.of (.eq (.slice pK (limbs d).length qK)) rfl rfl) (hcm.trans ((Below.refl _ _).mono hcm.size))
        · have e1 : f 41 = .slice pX (limbs a).length mX := hf 1 _ _ rfl rfl (up_dep hr (by kernel_rfl))
          have e2 : f 42 = .slice pK (limbs d).length qK := hf 2 _ _ rfl rfl (up_dep hr (by kernel_rfl))
          refine GJ.op hj (by kernel_rfl) hr rfl [40, 41, 42, 43, 44, 45, 46, 39, 47, 48, 10, 11] (by kernel_rfl) (fun K hK => ?_)
          simp only [Act.put, List.foldl_cons, List.foldl_nil, List.setIfInBounds_toArray, List.set_cons_zero, List.set_cons_succ] at hK ⊢
          clear hj hf
          rw [e1, e2] at hK ⊢
          clear e1 e2
          go_simp
          refine (Product_n w9 _ _ a d (FXN.out.after hcm) (FK.out.after hcm) (Nat.le_trans LA.out (by omega)) (Nat.le_trans LD.out (by omega))).mono ?_
          rintro e w10 ⟨v10, rfl, hv10, hb10⟩
          exact hK _ _ (fun k v _ _ h => h.keep hb10) (fun t ht => SK.of (.nat (a * d)) rfl hv10) (hcm.trans (hb10.mono hcm.size))
        · have klt := (CX.out.after hcm).lt
          refine GJ.op hj (by kernel_rfl) hr rfl [40, 41, 42, 43, 44, 45, 46, 39, 47, 48, 10, 11] (by kernel_rfl) (fun K hK => ?_)
          simp only [Act.put, List.foldl_cons, List.foldl_nil, List.setIfInBounds_toArray, List.set_cons_zero, List.set_cons_succ] at hK ⊢
          clear hj hf
          go_simp
          exact hK _ _ (fun k v _ _ h => h.keep (Below.refl _ _)) (fun t ht => SK.of (.eq (.pointer (some ⟨w.heap.size, 2, none⟩))) rfl rfl) (hcm.trans ((Below.refl _ _).mono hcm.size))
        · have e1 : f 44 = .pointer (some ⟨w.heap.size, 2, none⟩) := hf 4 _ _ rfl rfl (up_dep hr (by kernel_rfl))
          obtain ⟨k0, k1, k2⟩ := (CX.out.after hcm).cells3
          have klt := (CX.out.after hcm).lt
          refine GJ.op hj (by kernel_rfl) hr rfl [40, 41, 42, 43, 44, 45, 46, 39, 47, 48, 10, 11] (by kernel_rfl) (fun K hK => ?_)
          simp only [Act.put, List.foldl_cons, List.foldl_nil, List.setIfInBounds_toArray, List.set_cons_zero, List.set_cons_succ] at hK ⊢
          clear hj hf
          rw [e1] at hK ⊢
          clear e1
          go_simp
          exact hK _ _ (fun k v _ _ h => h.keep (Below.refl _ _)) (fun t ht => SK.of (.eq (.slice qX (limbs b).length nX)) rfl rfl) (hcm.trans ((Below.refl _ _).mono hcm.size))
        · have s1 : Sl w9 (f 43) (limbs (a * d)) := hf 3 _ _ rfl rfl (up_dep hr (by kernel_rfl))
          have e2 : f 45 = .slice qX (limbs b).length nX := hf 5 _ _ rfl rfl (up_dep hr (by kernel_rfl))
          refine GJ.op hj (by kernel_rfl) hr rfl [40, 41, 42, 43, 44, 45, 46, 39, 47, 48, 10, 11] (by kernel_rfl) (fun K hK => ?_)
          simp only [Act.put, List.foldl_cons, List.foldl_nil, List.setIfInBounds_toArray, List.set_cons_zero, List.set_cons_succ] at hK ⊢
          clear hj hf
          rw [e2] at hK ⊢
          clear e2
          go_simp
          refine (Quotient_c w9 _ _ (a * d) b s1 (FXD.out.after hcm) hpos (Nat.le_trans LAD.out (by omega)) (Nat.le_trans LB.out (by omega))).mono ?_
          rw [HQD.out]
          rintro e w10 ⟨v10, v10', rfl, hv10, hv10', hb10⟩
          exact hK _ _ (fun k v _ _ h => h.keep hb10) (fun t ht => SK.of (.two (Q) (a * d % b)) rfl ⟨_, _, rfl, hv10, hv10'⟩) (hcm.trans (hb10.mono hcm.size))
        · obtain ⟨u1, u1', e1, s1, s1'⟩ : ∃ u u', f 46 = .tuple #[u, u'] ∧ Sl w9 u (limbs (Q)) ∧ Sl w9 u' (limbs (a * d % b)) := hf 6 _ _ rfl rfl (up_dep hr (by kernel_rfl))
          refine GJ.op hj (by kernel_rfl) hr rfl [40, 41, 42, 43, 44, 45, 46, 39, 47, 48, 10, 11] (by kernel_rfl) (fun K hK => ?_)
          simp only [Act.put, List.foldl_cons, List.foldl_nil, List.setIfInBounds_toArray, List.set_cons_zero, List.set_cons_succ] at hK ⊢
          clear hj hf
          rw [e1] at hK ⊢
          clear e1
          go_simp
          exact hK _ _ (fun k v _ _ h => h.keep (Below.refl _ _)) (fun t ht => SK.of (.two (Q) (a * d % b)) rfl ⟨_, _, rfl, s1, s1'⟩) (hcm.trans ((Below.refl _ _).mono hcm.size))
        · obtain ⟨u1, u1', e1, s1, s1'⟩ : ∃ u u', f 39 = .tuple #[u, u'] ∧ Sl w9 u (limbs (Q)) ∧ Sl w9 u' (limbs (a * d % b)) := hf 7 _ _ rfl rfl (up_dep hr (by kernel_rfl))
          refine GJ.op hj (by kernel_rfl) hr rfl [40, 41, 42, 43, 44, 45, 46, 39, 47, 48, 10, 11] (by kernel_rfl) (fun K hK => ?_)
          simp only [Act.put, List.foldl_cons, List.foldl_nil, List.setIfInBounds_toArray, List.set_cons_zero, List.set_cons_succ] at hK ⊢
          clear hj hf
          rw [e1] at hK ⊢
          clear e1
          go_simp
          exact hK _ _ (fun k v _ _ h => h.keep (Below.refl _ _)) (fun t ht => SK.of (.nat (Q)) rfl s1) (hcm.trans ((Below.refl _ _).mono hcm.size))
        · obtain ⟨u1, u1', e1, s1, s1'⟩ : ∃ u u', f 39 = .tuple #[u, u'] ∧ Sl w9 u (limbs (Q)) ∧ Sl w9 u' (limbs (a * d % b)) := hf 7 _ _ rfl rfl (up_dep hr (by kernel_rfl))
          refine GJ.op hj (by kernel_rfl) hr rfl [40, 41, 42, 43, 44, 45, 46, 39, 47, 48, 10, 11] (by kernel_rfl) (fun K hK => ?_)
          simp only [Act.put, List.foldl_cons, List.foldl_nil, List.setIfInBounds_toArray, List.set_cons_zero, List.set_cons_succ] at hK ⊢
          clear hj hf
          rw [e1] at hK ⊢
          clear e1
          go_simp
          exact hK _ _ (fun k v _ _ h => h.keep (Below.refl _ _)) (fun t ht => SK.of (.nat (a * d % b)) rfl s1') (hcm.trans ((Below.refl _ _).mono hcm.size))
        · have s1 : Sl w9 (f 47) (limbs (Q)) := hf 8 _ _ rfl rfl (up_dep hr (by kernel_rfl))
          refine GJ.op hj (by kernel_rfl) hr rfl [40, 41, 42, 43, 44, 45, 46, 39, 47, 48, 10, 11] (by kernel_rfl) (fun K hK => ?_)
          simp only [Act.put, List.foldl_cons, List.foldl_nil, List.setIfInBounds_toArray, List.set_cons_zero, List.set_cons_succ] at hK ⊢
          clear hj hf
          go_simp
          exact hK _ _ (fun k v _ _ h => h.keep (Below.refl _ _)) (fun t ht => SK.of (.nat (Q)) rfl s1) (hcm.trans ((Below.refl _ _).mono hcm.size))
        · have s1 : Sl w9 (f 48) (limbs (a * d % b)) := hf 9 _ _ rfl rfl (up_dep hr (by kernel_rfl))
          refine GJ.op hj (by kernel_rfl) hr rfl [40, 41, 42, 43, 44, 45, 46, 39, 47, 48, 10, 11] (by kernel_rfl) (fun K hK => ?_)
          simp only [Act.put, List.foldl_cons, List.foldl_nil, List.setIfInBounds_toArray, List.set_cons_zero, List.set_cons_succ] at hK ⊢
          clear hj hf
          go_simp
          exact hK _ _ (fun k v _ _ h => h.keep (Below.refl _ _)) (fun t ht => SK.of (.nat (a * d % b)) rfl s1) (hcm.trans ((Below.refl _ _).mono hcm.size))
      · intro listed a w40 hr hj
        have hu : ∀ k, k < 12 → up listed k := fun k hk => all_up (by kernel_rfl) hj.lsize hr k hk
        obtain ⟨f, rfl, hcm, hf⟩ := hj.opened [40, 41, 42, 43, 44, 45, 46, 39, 47, 48, 10, 11] (by kernel_rfl)
        replace hcm : Below w3.heap.size w3 w40 := hcm
        have s10 : Sl w40 (f 10) (limbs Q) := hf 10 _ _ rfl rfl (hu 10 (by omega))
        obtain ⟨pQ, cQ, hsh, _, _⟩ := s10.shape
        rw [hsh] at s10
        have FQ := Lib.hid s10
        have hbn : Below w3.heap.size w3 w40 := hcm
        clear hcm hf hj hr hu s10
        simp only [List.foldl_cons, List.foldl_nil, List.setIfInBounds_toArray, List.set_cons_zero, List.set_cons_succ]
        rw [hsh]
        clear hsh
        generalize f 40 = g40
        generalize f 41 = g41
        generalize f 42 = g42
        generalize f 43 = g43
        generalize f 44 = g44
        generalize f 45 = g45
        generalize f 46 = g46
        generalize f 39 = g39
        generalize f 47 = g47
        generalize f 48 = g48
        generalize f 11 = g11
        clear f
        replace CX := Lib.hid (CX.out.after hbn)
        replace CR := Lib.hid (CR.out.after hbn)
        replace FX := Lib.hid (FX.out.after hbn)
        replace FXN := Lib.hid (FXN.out.after hbn)
        replace FXD := Lib.hid (FXD.out.after hbn)
        replace FK := Lib.hid (FK.out.after hbn)
        replace HFX := Lib.hid (HFX.out.after hbn)
        replace HVB := Lib.hid (HVB.out.after hbn)
        replace HB := Lib.hid (HB.out.trans (hbn.mono HB.out.size))
        clear hbn
        go_wp2_with fail
        have HNT2 : Hid (∀ g, g = BB → ¬ Tag32 w40 g) := by
          obtain ⟨_, _, hbx, _, _⟩ := HVB.out
          exact Box.noT hbx
        go_loopg [10, 12] 2 (fun g t10 t12 wx => ∃ i : Nat, i ≤ 2 ∧ g = 2 - i ∧ t12 = .int .i64 (i : Int) ∧ Hid (Sl wx t10 (limbs (Q + i))) ∧ ∃ (u : Bool) (p q : Nat), Hid (NrI s a b N d i u p q) ∧ Hid (VarF wx BB (fr u p q)) ∧ Hid (Fx (fun g => g = BB) w40 wx))
        case atStart => exact ⟨0, by omega, rfl, rfl, FQ.out, u, p, q, hnr.out, HVB.out, Fx.refl _ _⟩
        case round =>
          clear FQ HVB hnr u p q
          obtain ⟨i, hi2, rfl, rfl, hQ, u, p, q, hnr, hvB, hfx⟩ := hrel
          obtain ⟨pQ, cQ, rfl, _, _⟩ := hQ.out.shape
          have FQ := Lib.hid hQ.out
          clear hQ
          replace CX := Lib.hid (Box.fx CX.out hfx.out (by omega))
          replace CR := Lib.hid (Box.fx CR.out hfx.out (by omega))
          replace FX := Lib.hid (FX.out.fxr hfx.out HNT2.out)
          replace FXN := Lib.hid (FXN.out.fx hfx.out HNT2.out)
          replace FXD := Lib.hid (FXD.out.fx hfx.out HNT2.out)
          replace FK := Lib.hid (FK.out.fx hfx.out HNT2.out)
          replace HB := Lib.hid (HB.out.trans (hfx.out.toBelow HB.out.size (fun g e => by rw [e]; exact g_B)))
          by_cases hil : i < 2
          · have hdi : decide ((i : Int) < 2) = true := decide_eq_true (by omega)
            have hdi2 : decide (i < 2) = true := decide_eq_true hil
            have OKB := Lib.hid hnr.out.ok
            obtain ⟨va, vb, hbx, h1, h2⟩ := hvB.out
            obtain ⟨pB, mB, rfl, _, _⟩ := h1.shape
            obtain ⟨qB, nB, rfl, _, _⟩ := h2.shape
            have CB := Lib.hid hbx
            have FB := Lib.hid (IsF.at_ h1 h2)
            clear hbx h1 h2
            clear hvB
            rcases made_cases s (a * d / b + i) d hd0 with ⟨y, yp, yq, em, oky, hc, hq⟩ | ⟨em, _⟩
            · rw [HQD.out] at em
              have HM := Lib.hid em
              have OKY := Lib.hid oky
              clear em oky
              obtain ⟨cX0, cX1, cX2⟩ := CX.out.cells3
              have ltX := CX.out.lt
              obtain ⟨cR0, cR1, cR2⟩ := CR.out.cells3
              have ltR := CR.out.lt
              obtain ⟨cB0, cB1, cB2⟩ := CB.out.cells3
              have ltB := CB.out.lt
              go_wp2_with fail
              refine (Made_c _ _ _ (Q + i) d s FQ.out FK.out hd0 (Nat.le_trans (LQ.out i hi2) (by omega)) (Nat.le_trans LD.out (by omega))).mono ?_
              rw [HM.out]
              rintro e w41 ⟨v, rfl, hv, hb41⟩
              have hv : IsF _ v (fr y yp yq) := hv
              obtain ⟨va, vb, rfl, h1, h2⟩ := hv
              obtain ⟨pY, mY, rfl, _, _⟩ := h1.shape
              obtain ⟨qY, nY, rfl, _, _⟩ := h2.shape
              have FY := Lib.hid (IsF.at_ h1 h2)
              clear h1 h2
              clear cX0 cX1 cX2 ltX cR0 cR1 cR2 ltR cB0 cB1 cB2 ltB
              replace CX := Lib.hid (CX.out.after hb41)
              replace CR := Lib.hid (CR.out.after hb41)
              replace CB := Lib.hid (CB.out.after hb41)
              replace FX := Lib.hid (FX.out.after hb41)
              replace FXN := Lib.hid (FXN.out.after hb41)
              replace FXD := Lib.hid (FXD.out.after hb41)
              replace FK := Lib.hid (FK.out.after hb41)
              replace FQ := Lib.hid (FQ.out.after hb41)
              replace FB := Lib.hid (FB.out.after hb41)
              replace hfx := Lib.hid (hfx.out.after hb41)
              replace HB := Lib.hid (HB.out.trans (hb41.mono HB.out.size))
              clear hb41
              have d_X_Y : w.heap.size < w41.heap.size := CX.out.lt
              have d_R_Y : (w.heap.size + 1) < w41.heap.size := CR.out.lt
              have d_B_Y : BB < w41.heap.size := CB.out.lt
              have g_Y : w.heap.size ≤ w41.heap.size := by have := HB.out.size; omega
              by_cases g1 : dN (sg s a) b (sg y yp) yq * q < dN (sg s a) b (sg u p) q * yq
              · have HC1 := Lib.hid ((closer_is (s := s) (t := y) (g := u) (a := a) (c := yp) (d := yq) (e := p) (f := q) hpos).trans (decide_eq_true g1))
                obtain ⟨cX0, cX1, cX2⟩ := CX.out.cells3
                have ltX := CX.out.lt
                obtain ⟨cR0, cR1, cR2⟩ := CR.out.cells3
                have ltR := CR.out.lt
                obtain ⟨cB0, cB1, cB2⟩ := CB.out.cells3
                have ltB := CB.out.lt
                go_wp2_with fail
                refine (closer2_c _ _ _ _ s y u a b yp yq p q (FX.out.alloc _) (FY.out.alloc _) (FB.out.alloc _) (Nat.le_trans LA.out (by omega)) (Nat.le_trans LB.out (by omega)) (Nat.le_trans OKY.out.n32 (by omega)) (Nat.le_trans OKY.out.d32 (by omega)) (Nat.le_trans OKB.out.n32 (by omega)) (Nat.le_trans OKB.out.d32 (by omega))).mono ?_
                rw [HC1.out]
                rintro e w42 ⟨rfl, hb42⟩
                clear cX0 cX1 cX2 ltX cR0 cR1 cR2 ltR cB0 cB1 cB2 ltB
                obtain ⟨hb42, CY⟩ := after_new hb42
                replace CY := Lib.hid CY
                replace CX := Lib.hid (CX.out.after hb42)
                replace CR := Lib.hid (CR.out.after hb42)
                replace CB := Lib.hid (CB.out.after hb42)
                replace FX := Lib.hid (FX.out.after hb42)
                replace FXN := Lib.hid (FXN.out.after hb42)
                replace FXD := Lib.hid (FXD.out.after hb42)
                replace FK := Lib.hid (FK.out.after hb42)
                replace FQ := Lib.hid (FQ.out.after hb42)
                replace FB := Lib.hid (FB.out.after hb42)
                replace FY := Lib.hid (FY.out.after hb42)
                replace hfx := Lib.hid (hfx.out.after hb42)
                replace HB := Lib.hid (HB.out.trans (hb42.mono HB.out.size))
                clear hb42
                obtain ⟨cX0, cX1, cX2⟩ := CX.out.cells3
                have ltX := CX.out.lt
                obtain ⟨cR0, cR1, cR2⟩ := CR.out.cells3
                have ltR := CR.out.lt
                obtain ⟨cB0, cB1, cB2⟩ := CB.out.cells3
                have ltB := CB.out.lt
                obtain ⟨cY0, cY1, cY2⟩ := CY.out.cells3
                have ltY := CY.out.lt
                have zB0 := CB.out.frozen 0
                have zB1 := CB.out.frozen 1
                have zB2 := CB.out.frozen 2
                go_upto_region 17 with fail
                clear zB0 zB1 zB2
                clear cX0 cX1 cX2 ltX cR0 cR1 cR2 ltR cB0 cB1 cB2 ltB cY0 cY1 cY2 ltY
                obtain ⟨ws, hw⟩ : ∃ ws, ws = ((w42.setCell ⟨BB, 0, none⟩ (.bool (fr y yp yq).neg)).setCell ⟨BB, 1, none⟩ (.slice pY (fr y yp yq).num.length mY)).setCell ⟨BB, 2, none⟩ (.slice qY (fr y yp yq).den.length nY) := ⟨_, rfl⟩
                have hfs : Fx (fun g => g = BB) w42 ws := hw ▸ fx_set3 _ _ _ _
                have hns := Box.noT CB.out
                have cbn : Box ws BB #[.bool (fr y yp yq).neg, .slice pY (fr y yp yq).num.length mY, .slice qY (fr y yp yq).den.length nY] 25 := hw ▸ end_box CB.out
                rw [← hw]
                clear hw
                replace FX := Lib.hid (FX.out.fxr hfs hns)
                replace FXN := Lib.hid (FXN.out.fx hfs hns)
                replace FXD := Lib.hid (FXD.out.fx hfs hns)
                replace FK := Lib.hid (FK.out.fx hfs hns)
                replace FQ := Lib.hid (FQ.out.fx hfs hns)
                replace FB := Lib.hid (FB.out.fxr hfs hns)
                replace FY := Lib.hid (FY.out.fxr hfs hns)
                replace CX := Lib.hid (Box.fx CX.out hfs (by omega))
                replace CR := Lib.hid (Box.fx CR.out hfs (by omega))
                replace CY := Lib.hid (Box.fx CY.out hfs (by omega))
                replace HB := Lib.hid (HB.out.trans (hfs.toBelow HB.out.size (fun g e => by rw [e]; exact g_B)))
                replace hfx := Lib.hid (hfx.out.trans hfs)
                clear CB FB
                have CB := Lib.hid cbn
                have FB := FY
                clear cbn hfs hns
                obtain ⟨cX0, cX1, cX2⟩ := CX.out.cells3
                have ltX := CX.out.lt
                obtain ⟨cR0, cR1, cR2⟩ := CR.out.cells3
                have ltR := CR.out.lt
                obtain ⟨cB0, cB1, cB2⟩ := CB.out.cells3
                have ltB := CB.out.lt
                obtain ⟨cY0, cY1, cY2⟩ := CY.out.cells3
                have ltY := CY.out.lt
                go_wp2_with fail
                refine (Sum_n _ _ _ (Q + i) 1 (FQ.out.alloc _) (Sl_1 _) (Nat.le_trans (LQ.out i hi2) (by omega)) (by rw [limbs_one]; simp)).mono ?_
                rintro e w43 ⟨v, rfl, hv, hb43⟩
                have hv : Sl _ v (limbs (Q + (i + 1))) := hv
                obtain ⟨pQn, qQn, rfl, _, _⟩ := hv.shape
                have FQn := Lib.hid hv
                clear hv
                clear cX0 cX1 cX2 ltX cR0 cR1 cR2 ltR cB0 cB1 cB2 ltB cY0 cY1 cY2 ltY
                obtain ⟨hb43, CO⟩ := after_new hb43
                replace CO := Lib.hid CO
                replace CX := Lib.hid (CX.out.after hb43)
                replace CR := Lib.hid (CR.out.after hb43)
                replace CB := Lib.hid (CB.out.after hb43)
                replace CY := Lib.hid (CY.out.after hb43)
                replace FX := Lib.hid (FX.out.after hb43)
                replace FXN := Lib.hid (FXN.out.after hb43)
                replace FXD := Lib.hid (FXD.out.after hb43)
                replace FK := Lib.hid (FK.out.after hb43)
                replace FQ := Lib.hid (FQ.out.after hb43)
                replace FB := Lib.hid (FB.out.after hb43)
                replace FY := Lib.hid (FY.out.after hb43)
                replace hfx := Lib.hid (hfx.out.after hb43)
                replace HB := Lib.hid (HB.out.trans (hb43.mono HB.out.size))
                clear hb43
                clear CO
                have HVN : Hid (VarF w43 BB (fr y yp yq)) := VarF.of2 CB.out FB.out
                obtain ⟨cX0, cX1, cX2⟩ := CX.out.cells3
                have ltX := CX.out.lt
                obtain ⟨cR0, cR1, cR2⟩ := CR.out.cells3
                have ltR := CR.out.lt
                obtain ⟨cB0, cB1, cB2⟩ := CB.out.cells3
                have ltB := CB.out.lt
                obtain ⟨cY0, cY1, cY2⟩ := CY.out.cells3
                have ltY := CY.out.lt
                go_wp2_with fail
                go_roundg (2 - (i + 1))
                case measure => omega
                case rel => exact ⟨i + 1, by omega, rfl, by go_num, FQn.out, y, yp, yq, NrI.take hnr.out hd0 hlt OKY.out hq hc (.inl g1), HVN.out, hfx.out⟩
              · have HC1 := Lib.hid ((closer_is (s := s) (t := y) (g := u) (a := a) (c := yp) (d := yq) (e := p) (f := q) hpos).trans (decide_eq_false g1))
                by_cases g2 : dN (sg s a) b (sg u p) q * yq < dN (sg s a) b (sg y yp) yq * q
                · have HC2 := Lib.hid ((closer_is (s := s) (t := u) (g := y) (a := a) (c := p) (d := q) (e := yp) (f := yq) hpos).trans (decide_eq_true g2))
                  obtain ⟨cX0, cX1, cX2⟩ := CX.out.cells3
                  have ltX := CX.out.lt
                  obtain ⟨cR0, cR1, cR2⟩ := CR.out.cells3
                  have ltR := CR.out.lt
                  obtain ⟨cB0, cB1, cB2⟩ := CB.out.cells3
                  have ltB := CB.out.lt
                  go_wp2_with fail
                  refine (closer2_c _ _ _ _ s y u a b yp yq p q (FX.out.alloc _) (FY.out.alloc _) (FB.out.alloc _) (Nat.le_trans LA.out (by omega)) (Nat.le_trans LB.out (by omega)) (Nat.le_trans OKY.out.n32 (by omega)) (Nat.le_trans OKY.out.d32 (by omega)) (Nat.le_trans OKB.out.n32 (by omega)) (Nat.le_trans OKB.out.d32 (by omega))).mono ?_
                  rw [HC1.out]
                  rintro e w42 ⟨rfl, hb42⟩
                  clear cX0 cX1 cX2 ltX cR0 cR1 cR2 ltR cB0 cB1 cB2 ltB
                  obtain ⟨hb42, CY⟩ := after_new hb42
                  replace CY := Lib.hid CY
                  replace CX := Lib.hid (CX.out.after hb42)
                  replace CR := Lib.hid (CR.out.after hb42)
                  replace CB := Lib.hid (CB.out.after hb42)
                  replace FX := Lib.hid (FX.out.after hb42)
                  replace FXN := Lib.hid (FXN.out.after hb42)
                  replace FXD := Lib.hid (FXD.out.after hb42)
                  replace FK := Lib.hid (FK.out.after hb42)
                  replace FQ := Lib.hid (FQ.out.after hb42)
                  replace FB := Lib.hid (FB.out.after hb42)
                  replace FY := Lib.hid (FY.out.after hb42)
                  replace hfx := Lib.hid (hfx.out.after hb42)
                  replace HB := Lib.hid (HB.out.trans (hb42.mono HB.out.size))
                  clear hb42
                  obtain ⟨cX0, cX1, cX2⟩ := CX.out.cells3
                  have ltX := CX.out.lt
                  obtain ⟨cR0, cR1, cR2⟩ := CR.out.cells3
                  have ltR := CR.out.lt
                  obtain ⟨cB0, cB1, cB2⟩ := CB.out.cells3
                  have ltB := CB.out.lt
                  obtain ⟨cY0, cY1, cY2⟩ := CY.out.cells3
                  have ltY := CY.out.lt
                  go_wp2_with fail
                  refine (closer2_c _ _ _ _ s u y a b p q yp yq FX.out FB.out FY.out (Nat.le_trans LA.out (by omega)) (Nat.le_trans LB.out (by omega)) (Nat.le_trans OKB.out.n32 (by omega)) (Nat.le_trans OKB.out.d32 (by omega)) (Nat.le_trans OKY.out.n32 (by omega)) (Nat.le_trans OKY.out.d32 (by omega))).mono ?_
                  rw [HC2.out]
                  rintro e w43 ⟨rfl, hb43⟩
                  clear cX0 cX1 cX2 ltX cR0 cR1 cR2 ltR cB0 cB1 cB2 ltB cY0 cY1 cY2 ltY
                  replace CX := Lib.hid (CX.out.after hb43)
                  replace CR := Lib.hid (CR.out.after hb43)
                  replace CB := Lib.hid (CB.out.after hb43)
                  replace CY := Lib.hid (CY.out.after hb43)
                  replace FX := Lib.hid (FX.out.after hb43)
                  replace FXN := Lib.hid (FXN.out.after hb43)
                  replace FXD := Lib.hid (FXD.out.after hb43)
                  replace FK := Lib.hid (FK.out.after hb43)
                  replace FQ := Lib.hid (FQ.out.after hb43)
                  replace FB := Lib.hid (FB.out.after hb43)
                  replace FY := Lib.hid (FY.out.after hb43)
                  replace hfx := Lib.hid (hfx.out.after hb43)
                  replace HB := Lib.hid (HB.out.trans (hb43.mono HB.out.size))
                  clear hb43
                  obtain ⟨cX0, cX1, cX2⟩ := CX.out.cells3
                  have ltX := CX.out.lt
                  obtain ⟨cR0, cR1, cR2⟩ := CR.out.cells3
                  have ltR := CR.out.lt
                  obtain ⟨cB0, cB1, cB2⟩ := CB.out.cells3
                  have ltB := CB.out.lt
                  obtain ⟨cY0, cY1, cY2⟩ := CY.out.cells3
                  have ltY := CY.out.lt
                  go_wp2_with fail
                  refine (Sum_n _ _ _ (Q + i) 1 (FQ.out.alloc _) (Sl_1 _) (Nat.le_trans (LQ.out i hi2) (by omega)) (by rw [limbs_one]; simp)).mono ?_
                  rintro e w44 ⟨v, rfl, hv, hb44⟩
                  have hv : Sl _ v (limbs (Q + (i + 1))) := hv
                  obtain ⟨pQn, qQn, rfl, _, _⟩ := hv.shape
                  have FQn := Lib.hid hv
                  clear hv
                  clear cX0 cX1 cX2 ltX cR0 cR1 cR2 ltR cB0 cB1 cB2 ltB cY0 cY1 cY2 ltY
                  obtain ⟨hb44, CO⟩ := after_new hb44
                  replace CO := Lib.hid CO
                  replace CX := Lib.hid (CX.out.after hb44)
                  replace CR := Lib.hid (CR.out.after hb44)
                  replace CB := Lib.hid (CB.out.after hb44)
                  replace CY := Lib.hid (CY.out.after hb44)
                  replace FX := Lib.hid (FX.out.after hb44)
                  replace FXN := Lib.hid (FXN.out.after hb44)
                  replace FXD := Lib.hid (FXD.out.after hb44)
                  replace FK := Lib.hid (FK.out.after hb44)
                  replace FQ := Lib.hid (FQ.out.after hb44)
                  replace FB := Lib.hid (FB.out.after hb44)
                  replace FY := Lib.hid (FY.out.after hb44)
                  replace hfx := Lib.hid (hfx.out.after hb44)
                  replace HB := Lib.hid (HB.out.trans (hb44.mono HB.out.size))
                  clear hb44
                  clear CO
                  have HVN : Hid (VarF w44 BB (fr u p q)) := VarF.of2 CB.out FB.out
                  obtain ⟨cX0, cX1, cX2⟩ := CX.out.cells3
                  have ltX := CX.out.lt
                  obtain ⟨cR0, cR1, cR2⟩ := CR.out.cells3
                  have ltR := CR.out.lt
                  obtain ⟨cB0, cB1, cB2⟩ := CB.out.cells3
                  have ltB := CB.out.lt
                  obtain ⟨cY0, cY1, cY2⟩ := CY.out.cells3
                  have ltY := CY.out.lt
                  go_wp2_with fail
                  go_roundg (2 - (i + 1))
                  case measure => omega
                  case rel => exact ⟨i + 1, by omega, rfl, by go_num, FQn.out, u, p, q, NrI.keep hnr.out hd0 OKY.out hc (by unfold LexLt; omega), HVN.out, hfx.out⟩
                · have HC2 := Lib.hid ((closer_is (s := s) (t := u) (g := y) (a := a) (c := p) (d := q) (e := yp) (f := yq) hpos).trans (decide_eq_false g2))
                  obtain ⟨o1, ho1⟩ : ∃ o1, ordN y yp yq u p q = o1 := ⟨_, rfl⟩
                  have hoi := order_is OKY.out OKB.out
                  rw [ho1] at hoi
                  have HO := Lib.hid ho1
                  clear ho1
                  by_cases g3 : sg y yp * q < sg u p * yq
                  · rw [decide_eq_true g3] at hoi
                    obtain ⟨cX0, cX1, cX2⟩ := CX.out.cells3
                    have ltX := CX.out.lt
                    obtain ⟨cR0, cR1, cR2⟩ := CR.out.cells3
                    have ltR := CR.out.lt
                    obtain ⟨cB0, cB1, cB2⟩ := CB.out.cells3
                    have ltB := CB.out.lt
                    go_wp2_with fail
                    refine (closer2_c _ _ _ _ s y u a b yp yq p q (FX.out.alloc _) (FY.out.alloc _) (FB.out.alloc _) (Nat.le_trans LA.out (by omega)) (Nat.le_trans LB.out (by omega)) (Nat.le_trans OKY.out.n32 (by omega)) (Nat.le_trans OKY.out.d32 (by omega)) (Nat.le_trans OKB.out.n32 (by omega)) (Nat.le_trans OKB.out.d32 (by omega))).mono ?_
                    rw [HC1.out]
                    rintro e w42 ⟨rfl, hb42⟩
                    clear cX0 cX1 cX2 ltX cR0 cR1 cR2 ltR cB0 cB1 cB2 ltB
                    obtain ⟨hb42, CY⟩ := after_new hb42
                    replace CY := Lib.hid CY
                    replace CX := Lib.hid (CX.out.after hb42)
                    replace CR := Lib.hid (CR.out.after hb42)
                    replace CB := Lib.hid (CB.out.after hb42)
                    replace FX := Lib.hid (FX.out.after hb42)
                    replace FXN := Lib.hid (FXN.out.after hb42)
                    replace FXD := Lib.hid (FXD.out.after hb42)
                    replace FK := Lib.hid (FK.out.after hb42)
                    replace FQ := Lib.hid (FQ.out.after hb42)
                    replace FB := Lib.hid (FB.out.after hb42)
                    replace FY := Lib.hid (FY.out.after hb42)
                    replace hfx := Lib.hid (hfx.out.after hb42)
                    replace HB := Lib.hid (HB.out.trans (hb42.mono HB.out.size))
                    clear hb42
                    obtain ⟨cX0, cX1, cX2⟩ := CX.out.cells3
                    have ltX := CX.out.lt
                    obtain ⟨cR0, cR1, cR2⟩ := CR.out.cells3
                    have ltR := CR.out.lt
                    obtain ⟨cB0, cB1, cB2⟩ := CB.out.cells3
                    have ltB := CB.out.lt
                    obtain ⟨cY0, cY1, cY2⟩ := CY.out.cells3
                    have ltY := CY.out.lt
                    go_wp2_with fail
                    refine (closer2_c _ _ _ _ s u y a b p q yp yq FX.out FB.out FY.out (Nat.le_trans LA.out (by omega)) (Nat.le_trans LB.out (by omega)) (Nat.le_trans OKB.out.n32 (by omega)) (Nat.le_trans OKB.out.d32 (by omega)) (Nat.le_trans OKY.out.n32 (by omega)) (Nat.le_trans OKY.out.d32 (by omega))).mono ?_
                    rw [HC2.out]
                    rintro e w43 ⟨rfl, hb43⟩
                    clear cX0 cX1 cX2 ltX cR0 cR1 cR2 ltR cB0 cB1 cB2 ltB cY0 cY1 cY2 ltY
                    replace CX := Lib.hid (CX.out.after hb43)
                    replace CR := Lib.hid (CR.out.after hb43)
                    replace CB := Lib.hid (CB.out.after hb43)
                    replace CY := Lib.hid (CY.out.after hb43)
                    replace FX := Lib.hid (FX.out.after hb43)
                    replace FXN := Lib.hid (FXN.out.after hb43)
                    replace FXD := Lib.hid (FXD.out.after hb43)
                    replace FK := Lib.hid (FK.out.after hb43)
                    replace FQ := Lib.hid (FQ.out.after hb43)
                    replace FB := Lib.hid (FB.out.after hb43)
                    replace FY := Lib.hid (FY.out.after hb43)
                    replace hfx := Lib.hid (hfx.out.after hb43)
                    replace HB := Lib.hid (HB.out.trans (hb43.mono HB.out.size))
                    clear hb43
                    obtain ⟨cX0, cX1, cX2⟩ := CX.out.cells3
                    have ltX := CX.out.lt
                    obtain ⟨cR0, cR1, cR2⟩ := CR.out.cells3
                    have ltR := CR.out.lt
                    obtain ⟨cB0, cB1, cB2⟩ := CB.out.cells3
                    have ltB := CB.out.lt
                    obtain ⟨cY0, cY1, cY2⟩ := CY.out.cells3
                    have ltY := CY.out.lt
                    go_wp2_with fail
                    refine (rorder_c _ _ _ y u yp yq p q FY.out FB.out (Nat.le_trans OKY.out.n32 (by omega)) (Nat.le_trans OKY.out.d32 (by omega)) (Nat.le_trans OKB.out.n32 (by omega)) (Nat.le_trans OKB.out.d32 (by omega))).mono ?_
                    rw [HO.out]
                    rintro e w44 ⟨rfl, hb44⟩
                    clear cX0 cX1 cX2 ltX cR0 cR1 cR2 ltR cB0 cB1 cB2 ltB cY0 cY1 cY2 ltY
                    replace CX := Lib.hid (CX.out.after hb44)
                    replace CR := Lib.hid (CR.out.after hb44)
                    replace CB := Lib.hid (CB.out.after hb44)
                    replace CY := Lib.hid (CY.out.after hb44)
                    replace FX := Lib.hid (FX.out.after hb44)
                    replace FXN := Lib.hid (FXN.out.after hb44)
                    replace FXD := Lib.hid (FXD.out.after hb44)
                    replace FK := Lib.hid (FK.out.after hb44)
                    replace FQ := Lib.hid (FQ.out.after hb44)
                    replace FB := Lib.hid (FB.out.after hb44)
                    replace FY := Lib.hid (FY.out.after hb44)
                    replace hfx := Lib.hid (hfx.out.after hb44)
                    replace HB := Lib.hid (HB.out.trans (hb44.mono HB.out.size))
                    clear hb44
                    obtain ⟨cX0, cX1, cX2⟩ := CX.out.cells3
                    have ltX := CX.out.lt
                    obtain ⟨cR0, cR1, cR2⟩ := CR.out.cells3
                    have ltR := CR.out.lt
                    obtain ⟨cB0, cB1, cB2⟩ := CB.out.cells3
                    have ltB := CB.out.lt
                    obtain ⟨cY0, cY1, cY2⟩ := CY.out.cells3
                    have ltY := CY.out.lt
                    have zB0 := CB.out.frozen 0
                    have zB1 := CB.out.frozen 1
                    have zB2 := CB.out.frozen 2
                    go_upto_region 17 with fail
                    clear zB0 zB1 zB2
                    clear cX0 cX1 cX2 ltX cR0 cR1 cR2 ltR cB0 cB1 cB2 ltB cY0 cY1 cY2 ltY
                    obtain ⟨ws, hw⟩ : ∃ ws, ws = ((w44.setCell ⟨BB, 0, none⟩ (.bool (fr y yp yq).neg)).setCell ⟨BB, 1, none⟩ (.slice pY (fr y yp yq).num.length mY)).setCell ⟨BB, 2, none⟩ (.slice qY (fr y yp yq).den.length nY) := ⟨_, rfl⟩
                    have hfs : Fx (fun g => g = BB) w44 ws := hw ▸ fx_set3 _ _ _ _
                    have hns := Box.noT CB.out
                    have cbn : Box ws BB #[.bool (fr y yp yq).neg, .slice pY (fr y yp yq).num.length mY, .slice qY (fr y yp yq).den.length nY] 25 := hw ▸ end_box CB.out
                    rw [← hw]
                    clear hw
                    replace FX := Lib.hid (FX.out.fxr hfs hns)
                    replace FXN := Lib.hid (FXN.out.fx hfs hns)
                    replace FXD := Lib.hid (FXD.out.fx hfs hns)
                    replace FK := Lib.hid (FK.out.fx hfs hns)
                    replace FQ := Lib.hid (FQ.out.fx hfs hns)
                    replace FB := Lib.hid (FB.out.fxr hfs hns)
                    replace FY := Lib.hid (FY.out.fxr hfs hns)
                    replace CX := Lib.hid (Box.fx CX.out hfs (by omega))
                    replace CR := Lib.hid (Box.fx CR.out hfs (by omega))
                    replace CY := Lib.hid (Box.fx CY.out hfs (by omega))
                    replace HB := Lib.hid (HB.out.trans (hfs.toBelow HB.out.size (fun g e => by rw [e]; exact g_B)))
                    replace hfx := Lib.hid (hfx.out.trans hfs)
                    clear CB FB
                    have CB := Lib.hid cbn
                    have FB := FY
                    clear cbn hfs hns
                    obtain ⟨cX0, cX1, cX2⟩ := CX.out.cells3
                    have ltX := CX.out.lt
                    obtain ⟨cR0, cR1, cR2⟩ := CR.out.cells3
                    have ltR := CR.out.lt
                    obtain ⟨cB0, cB1, cB2⟩ := CB.out.cells3
                    have ltB := CB.out.lt
                    obtain ⟨cY0, cY1, cY2⟩ := CY.out.cells3
                    have ltY := CY.out.lt
                    go_wp2_with fail
                    refine (Sum_n _ _ _ (Q + i) 1 (FQ.out.alloc _) (Sl_1 _) (Nat.le_trans (LQ.out i hi2) (by omega)) (by rw [limbs_one]; simp)).mono ?_
                    rintro e w45 ⟨v, rfl, hv, hb45⟩
                    have hv : Sl _ v (limbs (Q + (i + 1))) := hv
                    obtain ⟨pQn, qQn, rfl, _, _⟩ := hv.shape
                    have FQn := Lib.hid hv
                    clear hv
                    clear cX0 cX1 cX2 ltX cR0 cR1 cR2 ltR cB0 cB1 cB2 ltB cY0 cY1 cY2 ltY
                    obtain ⟨hb45, CO⟩ := after_new hb45
                    replace CO := Lib.hid CO
                    replace CX := Lib.hid (CX.out.after hb45)
                    replace CR := Lib.hid (CR.out.after hb45)
                    replace CB := Lib.hid (CB.out.after hb45)
                    replace CY := Lib.hid (CY.out.after hb45)
                    replace FX := Lib.hid (FX.out.after hb45)
                    replace FXN := Lib.hid (FXN.out.after hb45)
                    replace FXD := Lib.hid (FXD.out.after hb45)
                    replace FK := Lib.hid (FK.out.after hb45)
                    replace FQ := Lib.hid (FQ.out.after hb45)
                    replace FB := Lib.hid (FB.out.after hb45)
                    replace FY := Lib.hid (FY.out.after hb45)
                    replace hfx := Lib.hid (hfx.out.after hb45)
                    replace HB := Lib.hid (HB.out.trans (hb45.mono HB.out.size))
                    clear hb45
                    clear CO
                    have HVN : Hid (VarF w45 BB (fr y yp yq)) := VarF.of2 CB.out FB.out
                    obtain ⟨cX0, cX1, cX2⟩ := CX.out.cells3
                    have ltX := CX.out.lt
                    obtain ⟨cR0, cR1, cR2⟩ := CR.out.cells3
                    have ltR := CR.out.lt
                    obtain ⟨cB0, cB1, cB2⟩ := CB.out.cells3
                    have ltB := CB.out.lt
                    obtain ⟨cY0, cY1, cY2⟩ := CY.out.cells3
                    have ltY := CY.out.lt
                    go_wp2_with fail
                    go_roundg (2 - (i + 1))
                    case measure => omega
                    case rel => exact ⟨i + 1, by omega, rfl, by go_num, FQn.out, y, yp, yq, NrI.take hnr.out hd0 hlt OKY.out hq hc (.inr ⟨by omega, g3⟩), HVN.out, hfx.out⟩
                  · rw [decide_eq_false g3] at hoi
                    obtain ⟨cX0, cX1, cX2⟩ := CX.out.cells3
                    have ltX := CX.out.lt
                    obtain ⟨cR0, cR1, cR2⟩ := CR.out.cells3
                    have ltR := CR.out.lt
                    obtain ⟨cB0, cB1, cB2⟩ := CB.out.cells3
                    have ltB := CB.out.lt
                    go_wp2_with fail
                    refine (closer2_c _ _ _ _ s y u a b yp yq p q (FX.out.alloc _) (FY.out.alloc _) (FB.out.alloc _) (Nat.le_trans LA.out (by omega)) (Nat.le_trans LB.out (by omega)) (Nat.le_trans OKY.out.n32 (by omega)) (Nat.le_trans OKY.out.d32 (by omega)) (Nat.le_trans OKB.out.n32 (by omega)) (Nat.le_trans OKB.out.d32 (by omega))).mono ?_
                    rw [HC1.out]
                    rintro e w42 ⟨rfl, hb42⟩
                    clear cX0 cX1 cX2 ltX cR0 cR1 cR2 ltR cB0 cB1 cB2 ltB
                    obtain ⟨hb42, CY⟩ := after_new hb42
                    replace CY := Lib.hid CY
                    replace CX := Lib.hid (CX.out.after hb42)
                    replace CR := Lib.hid (CR.out.after hb42)
                    replace CB := Lib.hid (CB.out.after hb42)
                    replace FX := Lib.hid (FX.out.after hb42)
                    replace FXN := Lib.hid (FXN.out.after hb42)
                    replace FXD := Lib.hid (FXD.out.after hb42)
                    replace FK := Lib.hid (FK.out.after hb42)
                    replace FQ := Lib.hid (FQ.out.after hb42)
                    replace FB := Lib.hid (FB.out.after hb42)
                    replace FY := Lib.hid (FY.out.after hb42)
                    replace hfx := Lib.hid (hfx.out.after hb42)
                    replace HB := Lib.hid (HB.out.trans (hb42.mono HB.out.size))
                    clear hb42
                    obtain ⟨cX0, cX1, cX2⟩ := CX.out.cells3
                    have ltX := CX.out.lt
                    obtain ⟨cR0, cR1, cR2⟩ := CR.out.cells3
                    have ltR := CR.out.lt
                    obtain ⟨cB0, cB1, cB2⟩ := CB.out.cells3
                    have ltB := CB.out.lt
                    obtain ⟨cY0, cY1, cY2⟩ := CY.out.cells3
                    have ltY := CY.out.lt
                    go_wp2_with fail
                    refine (closer2_c _ _ _ _ s u y a b p q yp yq FX.out FB.out FY.out (Nat.le_trans LA.out (by omega)) (Nat.le_trans LB.out (by omega)) (Nat.le_trans OKB.out.n32 (by omega)) (Nat.le_trans OKB.out.d32 (by omega)) (Nat.le_trans OKY.out.n32 (by omega)) (Nat.le_trans OKY.out.d32 (by omega))).mono ?_
                    rw [HC2.out]
                    rintro e w43 ⟨rfl, hb43⟩
                    clear cX0 cX1 cX2 ltX cR0 cR1 cR2 ltR cB0 cB1 cB2 ltB cY0 cY1 cY2 ltY
                    replace CX := Lib.hid (CX.out.after hb43)
                    replace CR := Lib.hid (CR.out.after hb43)
                    replace CB := Lib.hid (CB.out.after hb43)
                    replace CY := Lib.hid (CY.out.after hb43)
                    replace FX := Lib.hid (FX.out.after hb43)
                    replace FXN := Lib.hid (FXN.out.after hb43)
                    replace FXD := Lib.hid (FXD.out.after hb43)
                    replace FK := Lib.hid (FK.out.after hb43)
                    replace FQ := Lib.hid (FQ.out.after hb43)
                    replace FB := Lib.hid (FB.out.after hb43)
                    replace FY := Lib.hid (FY.out.after hb43)
                    replace hfx := Lib.hid (hfx.out.after hb43)
                    replace HB := Lib.hid (HB.out.trans (hb43.mono HB.out.size))
                    clear hb43
                    obtain ⟨cX0, cX1, cX2⟩ := CX.out.cells3
                    have ltX := CX.out.lt
                    obtain ⟨cR0, cR1, cR2⟩ := CR.out.cells3
                    have ltR := CR.out.lt
                    obtain ⟨cB0, cB1, cB2⟩ := CB.out.cells3
                    have ltB := CB.out.lt
                    obtain ⟨cY0, cY1, cY2⟩ := CY.out.cells3
                    have ltY := CY.out.lt
                    go_wp2_with fail
                    refine (rorder_c _ _ _ y u yp yq p q FY.out FB.out (Nat.le_trans OKY.out.n32 (by omega)) (Nat.le_trans OKY.out.d32 (by omega)) (Nat.le_trans OKB.out.n32 (by omega)) (Nat.le_trans OKB.out.d32 (by omega))).mono ?_
                    rw [HO.out]
                    rintro e w44 ⟨rfl, hb44⟩
                    clear cX0 cX1 cX2 ltX cR0 cR1 cR2 ltR cB0 cB1 cB2 ltB cY0 cY1 cY2 ltY
                    replace CX := Lib.hid (CX.out.after hb44)
                    replace CR := Lib.hid (CR.out.after hb44)
                    replace CB := Lib.hid (CB.out.after hb44)
                    replace CY := Lib.hid (CY.out.after hb44)
                    replace FX := Lib.hid (FX.out.after hb44)
                    replace FXN := Lib.hid (FXN.out.after hb44)
                    replace FXD := Lib.hid (FXD.out.after hb44)
                    replace FK := Lib.hid (FK.out.after hb44)
                    replace FQ := Lib.hid (FQ.out.after hb44)
                    replace FB := Lib.hid (FB.out.after hb44)
                    replace FY := Lib.hid (FY.out.after hb44)
                    replace hfx := Lib.hid (hfx.out.after hb44)
                    replace HB := Lib.hid (HB.out.trans (hb44.mono HB.out.size))
                    clear hb44
                    obtain ⟨cX0, cX1, cX2⟩ := CX.out.cells3
                    have ltX := CX.out.lt
                    obtain ⟨cR0, cR1, cR2⟩ := CR.out.cells3
                    have ltR := CR.out.lt
                    obtain ⟨cB0, cB1, cB2⟩ := CB.out.cells3
                    have ltB := CB.out.lt
                    obtain ⟨cY0, cY1, cY2⟩ := CY.out.cells3
                    have ltY := CY.out.lt
                    go_wp2_with fail
                    refine (Sum_n _ _ _ (Q + i) 1 (FQ.out.alloc _) (Sl_1 _) (Nat.le_trans (LQ.out i hi2) (by omega)) (by rw [limbs_one]; simp)).mono ?_
                    rintro e w45 ⟨v, rfl, hv, hb45⟩
                    have hv : Sl _ v (limbs (Q + (i + 1))) := hv
                    obtain ⟨pQn, qQn, rfl, _, _⟩ := hv.shape
                    have FQn := Lib.hid hv
                    clear hv
                    clear cX0 cX1 cX2 ltX cR0 cR1 cR2 ltR cB0 cB1 cB2 ltB cY0 cY1 cY2 ltY
                    obtain ⟨hb45, CO⟩ := after_new hb45
                    replace CO := Lib.hid CO
                    replace CX := Lib.hid (CX.out.after hb45)
                    replace CR := Lib.hid (CR.out.after hb45)
                    replace CB := Lib.hid (CB.out.after hb45)
                    replace CY := Lib.hid (CY.out.after hb45)
                    replace FX := Lib.hid (FX.out.after hb45)
                    replace FXN := Lib.hid (FXN.out.after hb45)
                    replace FXD := Lib.hid (FXD.out.after hb45)
                    replace FK := Lib.hid (FK.out.after hb45)
                    replace FQ := Lib.hid (FQ.out.after hb45)
                    replace FB := Lib.hid (FB.out.after hb45)
                    replace FY := Lib.hid (FY.out.after hb45)
                    replace hfx := Lib.hid (hfx.out.after hb45)
                    replace HB := Lib.hid (HB.out.trans (hb45.mono HB.out.size))
                    clear hb45
                    clear CO
                    have HVN : Hid (VarF w45 BB (fr u p q)) := VarF.of2 CB.out FB.out
                    obtain ⟨cX0, cX1, cX2⟩ := CX.out.cells3
                    have ltX := CX.out.lt
                    obtain ⟨cR0, cR1, cR2⟩ := CR.out.cells3
                    have ltR := CR.out.lt
                    obtain ⟨cB0, cB1, cB2⟩ := CB.out.cells3
                    have ltB := CB.out.lt
                    obtain ⟨cY0, cY1, cY2⟩ := CY.out.cells3
                    have ltY := CY.out.lt
                    go_wp2_with fail
                    go_roundg (2 - (i + 1))
                    case measure => omega
                    case rel => exact ⟨i + 1, by omega, rfl, by go_num, FQn.out, u, p, q, NrI.keep hnr.out hd0 OKY.out hc (by unfold LexLt; rintro (h | ⟨_, h⟩) <;> omega), HVN.out, hfx.out⟩
            · have hne : (made s (a * d / b + i) d).2 ≠ 0 := by rw [em]; decide
              rw [HQD.out] at em
              obtain ⟨MM, hMM⟩ : ∃ MM, made s (Q + i) d = MM := ⟨_, rfl⟩
              rw [hMM] at em
              have HMM := Lib.hid hMM
              clear hMM
              obtain ⟨cX0, cX1, cX2⟩ := CX.out.cells3
              have ltX := CX.out.lt
              obtain ⟨cR0, cR1, cR2⟩ := CR.out.cells3
              have ltR := CR.out.lt
              obtain ⟨cB0, cB1, cB2⟩ := CB.out.cells3
              have ltB := CB.out.lt
              go_wp2_with fail
              refine (Made_c _ _ _ (Q + i) d s FQ.out FK.out hd0 (Nat.le_trans (LQ.out i hi2) (by omega)) (Nat.le_trans LD.out (by omega))).mono ?_
              rw [HMM.out]
              rintro e w41 ⟨v, rfl, hv, hb41⟩
              have hv : IsF _ v (MM.1) := hv
              obtain ⟨va, vb, rfl, h1, h2⟩ := hv
              obtain ⟨pY, mY, rfl, _, _⟩ := h1.shape
              obtain ⟨qY, nY, rfl, _, _⟩ := h2.shape
              have FY := Lib.hid (IsF.at_ h1 h2)
              clear h1 h2
              clear cX0 cX1 cX2 ltX cR0 cR1 cR2 ltR cB0 cB1 cB2 ltB
              replace CX := Lib.hid (CX.out.after hb41)
              replace CR := Lib.hid (CR.out.after hb41)
              replace CB := Lib.hid (CB.out.after hb41)
              replace FX := Lib.hid (FX.out.after hb41)
              replace FXN := Lib.hid (FXN.out.after hb41)
              replace FXD := Lib.hid (FXD.out.after hb41)
              replace FK := Lib.hid (FK.out.after hb41)
              replace FQ := Lib.hid (FQ.out.after hb41)
              replace FB := Lib.hid (FB.out.after hb41)
              replace hfx := Lib.hid (hfx.out.after hb41)
              replace HB := Lib.hid (HB.out.trans (hb41.mono HB.out.size))
              clear hb41
              have d_X_Y : w.heap.size < w41.heap.size := CX.out.lt
              have d_R_Y : (w.heap.size + 1) < w41.heap.size := CR.out.lt
              have d_B_Y : BB < w41.heap.size := CB.out.lt
              have g_Y : w.heap.size ≤ w41.heap.size := by have := HB.out.size; omega
              obtain ⟨cX0, cX1, cX2⟩ := CX.out.cells3
              have ltX := CX.out.lt
              obtain ⟨cR0, cR1, cR2⟩ := CR.out.cells3
              have ltR := CR.out.lt
              obtain ⟨cB0, cB1, cB2⟩ := CB.out.cells3
              have ltB := CB.out.lt
              go_wp2_with fail
              refine (Sum_n _ _ _ (Q + i) 1 ((FQ.out.alloc _).alloc _) (Sl_1a _ _) (Nat.le_trans (LQ.out i hi2) (by omega)) (by rw [limbs_one]; simp)).mono ?_
              rintro e w42 ⟨v, rfl, hv, hb42⟩
              have hv : Sl _ v (limbs (Q + (i + 1))) := hv
              obtain ⟨pQn, qQn, rfl, _, _⟩ := hv.shape
              have FQn := Lib.hid hv
              clear hv
              clear cX0 cX1 cX2 ltX cR0 cR1 cR2 ltR cB0 cB1 cB2 ltB
              obtain ⟨hb42, CY, CO⟩ := after_new2 hb42
              replace CY := Lib.hid CY
              replace CO := Lib.hid CO
              replace CX := Lib.hid (CX.out.after hb42)
              replace CR := Lib.hid (CR.out.after hb42)
              replace CB := Lib.hid (CB.out.after hb42)
              replace FX := Lib.hid (FX.out.after hb42)
              replace FXN := Lib.hid (FXN.out.after hb42)
              replace FXD := Lib.hid (FXD.out.after hb42)
              replace FK := Lib.hid (FK.out.after hb42)
              replace FQ := Lib.hid (FQ.out.after hb42)
              replace FB := Lib.hid (FB.out.after hb42)
              replace FY := Lib.hid (FY.out.after hb42)
              replace hfx := Lib.hid (hfx.out.after hb42)
              replace HB := Lib.hid (HB.out.trans (hb42.mono HB.out.size))
              clear hb42
              clear CO
              have HVN : Hid (VarF w42 BB (fr u p q)) := VarF.of2 CB.out FB.out
              obtain ⟨cX0, cX1, cX2⟩ := CX.out.cells3
              have ltX := CX.out.lt
              obtain ⟨cR0, cR1, cR2⟩ := CR.out.cells3
              have ltR := CR.out.lt
              obtain ⟨cB0, cB1, cB2⟩ := CB.out.cells3
              have ltB := CB.out.lt
              obtain ⟨cY0, cY1, cY2⟩ := CY.out.cells3
              have ltY := CY.out.lt
              go_wp2_with fail
              go_roundg (2 - (i + 1))
              case measure => omega
              case rel => exact ⟨i + 1, by omega, rfl, by go_num, FQn.out, u, p, q, NrI.skip hnr.out hne, HVN.out, hfx.out⟩
          · obtain rfl : i = 2 := by omega
            have hdi : decide (((2 : Nat) : Int) < 2) = false := rfl
            go_wp2_with fail
            go_roundg (N - d)
            case measure => omega
            case rel => exact ⟨d + 1, by omega, by omega, by omega, by go_num, u, p, q, NrI.next hnr.out, hvB.out, HFX.out.trans hfx.out⟩
    · obtain rfl : d = N + 1 := by omega
      have hdl : decide (((N + 1 : Nat) : Int) ≤ (N : Int)) = false := decide_eq_false (by omega)
      have hdl2 : decide (N + 1 ≤ N) = false := decide_eq_false (by omega)
      have HS := Lib.hid (HFIN.out u p q hnr.out)
      clear HFIN hnr hfx
      obtain ⟨va, vb, hbx, h1, h2⟩ := hvB.out
      obtain ⟨pB, mB, rfl, _, _⟩ := h1.shape
      obtain ⟨qB, nB, rfl, _, _⟩ := h2.shape
      have CB := Lib.hid hbx
      have FB := Lib.hid (IsF.at_ h1 h2)
      clear hbx h1 h2
      clear hvB
      obtain ⟨cX0, cX1, cX2⟩ := CX.out.cells3
      have ltX := CX.out.lt
      obtain ⟨cR0, cR1, cR2⟩ := CR.out.cells3
      have ltR := CR.out.lt
      obtain ⟨cB0, cB1, cB2⟩ := CB.out.cells3
      have ltB := CB.out.lt
      have zR0 := CR.out.frozen 0
      have zR1 := CR.out.frozen 1
      have zR2 := CR.out.frozen 2
      go_wp2_with fail
      refine bodyPost_ret (v := .tuple #[.agg #[.bool u, .slice pB (limbs p).length mB, .slice qB (limbs q).length nB], .int .i64 0]) (by simp [results, Try.results42, go_sem, cR0, cR1, cR2, fr]) rfl ?_
      rw [HS.out]
      obtain ⟨v9, e9, i9, b9⟩ := retF1_end (x := fr u p q) HB.out CR.out (fun _ h => by cases h) (fun _ h => by cases h) (by omega) FB.out.parts.2.1 FB.out.parts.2.2
      injection e9 with e9
      subst e9
      exact ⟨_, rfl, i9, b9⟩
theorem rNearest_c (w : World) (v : Value) (x : F) (N : Int) (h : IsF w v x) : Calls Try.prog 42 #[v, .int .i64 N] w (RetF w (nearF x N)) := by
  by_cases hv : ValidF x
  · obtain ⟨s, a, b, rfl, ok⟩ : ∃ s a b, x = fr s a b ∧ Ok s a b := ⟨_, _, _, hv.eq, hv.2.2⟩
    by_cases hN : N < 1 ∨ 1000 < N
    · exact rNearest_far w v s a b N h ok hN
    · obtain ⟨n, rfl⟩ : ∃ n : Nat, N = (n : Int) := ⟨N.toNat, by omega⟩
      exact rNearest_in w v s a b n h ok (by omega) (by omega)
  · exact rNearest_bad w v x N h hv
end Go.Proofs.Ytaojdlcailpheaa
