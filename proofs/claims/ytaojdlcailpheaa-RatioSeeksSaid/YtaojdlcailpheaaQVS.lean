/- Walks of the reference: simplest. -/
import Derived.Test.YtaojdlcailpheaaQVW
import Derived.Test.YtaojdlcailpheaaQV16
import Derived.Test.YtaojdlcailpheaaQGl
set_option linter.unusedVariables false
namespace Go.Proofs.Ytaojdlcailpheaa
open Go.RowKit

set_option maxRecDepth 100000 in
set_option maxHeartbeats 8000000 in
theorem rsimplest_c : ∀ (k : Nat) (w : World) (v u : Value) (a b c d : Nat), b + d = k → IsF w v (fr false a b) → IsF w u (fr false c d) → Ok false a b → Ok false c d → a * d ≤ c * b →
    Calls Try.prog 81 #[v, u] w (RetF1 w (fr false (simpN a b c d).1 (simpN a b c d).2)) := by
  intro k
  induction k using Nat.strongRecOn with
  | _ k ih =>
    intro w v u a b c d hk h hu ok1 ok2 hle
    obtain ⟨va, vb, rfl, h1, h2⟩ := h
    obtain ⟨vc, vd, rfl, h3, h4⟩ := hu
    obtain ⟨pX, mX, rfl, _, _⟩ := h1.shape
    obtain ⟨qX, nX, rfl, _, _⟩ := h2.shape
    obtain ⟨pY, mY, rfl, _, _⟩ := h3.shape
    obtain ⟨qY, nY, rfl, _, _⟩ := h4.shape
    replace h1 : Sl w (.slice pX (limbs a).length mX) (limbs a) := h1
    replace h2 : Sl w (.slice qX (limbs b).length nX) (limbs b) := h2
    replace h3 : Sl w (.slice pY (limbs c).length mY) (limbs c) := h3
    replace h4 : Sl w (.slice qY (limbs d).length nY) (limbs d) := h4
    show Calls _ _ #[.agg #[.bool false, .slice pX (limbs a).length mX, .slice qX (limbs b).length nX], .agg #[.bool false, .slice pY (limbs c).length mY, .slice qY (limbs d).length nY]] w _
    obtain ⟨W0, hW, bx, by', br, hsz, hb0⟩ := start3 w #[.bool false, .slice pX (limbs a).length mX, .slice qX (limbs b).length nX] #[.bool false, .slice pY (limbs c).length mY, .slice qY (limbs d).length nY] #[.bool false, .slice none 0 0, .slice none 0 0] 25
    have FXN := Lib.hid (h1.after hb0)
    have FXD := Lib.hid (h2.after hb0)
    have FYN := Lib.hid (h3.after hb0)
    have FYD := Lib.hid (h4.after hb0)
    have HB := Lib.hid hb0
    have CX := Lib.hid bx
    have CY := Lib.hid by'
    have CR := Lib.hid br
    clear h1 h2 h3 h4 hb0 bx by' br hsz
    obtain ⟨R, hR⟩ : ∃ R, fr false (simpN a b c d).1 (simpN a b c d).2 = R := ⟨_, rfl⟩
    rw [hR]
    have hb := ok1.pos
    have hd := ok2.pos
    have LA : Hid ((limbs a).length ≤ 32) := ok1.n32
    have LB : Hid ((limbs b).length ≤ 32) := ok1.d32
    have LC : Hid ((limbs c).length ≤ 32) := ok2.n32
    have LD : Hid ((limbs d).length ≤ 32) := ok2.d32
    have KA : Hid ((limbs a).length ≤ 400000) := Nat.le_trans LA.out (by omega)
    have KB : Hid ((limbs b).length ≤ 400000) := Nat.le_trans LB.out (by omega)
    have M1 : Hid ((limbs 1).length ≤ 32) := by show _ ≤ _; rw [limbs_one]; simp
    obtain ⟨q, hq⟩ : ∃ q, a / b = q := ⟨_, rfl⟩
    have LQ : Hid ((limbs q).length ≤ 32) := Nat.le_trans (limbs_len_mono (by rw [← hq]; exact Nat.div_le_self a b)) LA.out
    have LQ1 : Hid ((limbs (q + 1)).length ≤ 33) := by
      show _ ≤ _
      have h1 := limbs_add_len q 1
      have h2 := LQ.out
      have h3 := M1.out
      omega
    by_cases hr : a % b = 0
    · have HS : Hid (R = fr false q 1) := by show _ = _; rw [← hR, simpN_last hr, hq]
      have QQ := Lib.hid hq
      have QR := Lib.hid hr
      clear hR hq hr ih ok1 ok2 hle hk
      go_enter Try.func81, Try.ntmps81
      go_upto_region 1 with fail
      rw [← hW]
      clear hW
      obtain ⟨cX0, cX1, cX2⟩ := CX.out.cells3
      have ltX := CX.out.lt
      obtain ⟨cY0, cY1, cY2⟩ := CY.out.cells3
      have ltY := CY.out.lt
      obtain ⟨cR0, cR1, cR2⟩ := CR.out.cells3
      have ltR := CR.out.lt
      go_wp2_with fail
      refine (Quotient_c _ _ _ a b FXN.out FXD.out hb KA.out KB.out).mono ?_
      rw [QQ.out, QR.out]
      rintro e w1 ⟨v1, v2, rfl, hv1, hv2, hb1⟩
      rw [limbs_zero] at hv2
      obtain ⟨pq, cq, rfl, _, _⟩ := hv1.shape
      obtain ⟨pr, cr, rfl, _, _⟩ := hv2.shape
      have Fq := Lib.hid hv1
      have Fr := Lib.hid hv2
      clear hv1 hv2
      clear cX0 cX1 cX2 ltX cY0 cY1 cY2 ltY cR0 cR1 cR2 ltR
      replace CX := Lib.hid (CX.out.after hb1)
      replace CY := Lib.hid (CY.out.after hb1)
      replace CR := Lib.hid (CR.out.after hb1)
      replace FXN := Lib.hid (FXN.out.after hb1)
      replace FXD := Lib.hid (FXD.out.after hb1)
      replace FYN := Lib.hid (FYN.out.after hb1)
      replace FYD := Lib.hid (FYD.out.after hb1)
      replace HB := Lib.hid (HB.out.trans (hb1.mono HB.out.size))
      clear hb1
      obtain ⟨cX0, cX1, cX2⟩ := CX.out.cells3
      have ltX := CX.out.lt
      obtain ⟨cY0, cY1, cY2⟩ := CY.out.cells3
      have ltY := CY.out.lt
      obtain ⟨cR0, cR1, cR2⟩ := CR.out.cells3
      have ltR := CR.out.lt
      go_wp2_with fail
      refine (rwhole_c _ _ q Fq.out).mono ?_
      rintro e w2 ⟨v, rfl, hv, hb2⟩
      have hv : IsF _ v (fr false q 1) := hv
      obtain ⟨va, vb, rfl, h1, h2⟩ := hv
      obtain ⟨pA, mA, rfl, _, _⟩ := h1.shape
      obtain ⟨qA, nA, rfl, _, _⟩ := h2.shape
      have FA := Lib.hid (IsF.at_ h1 h2)
      clear h1 h2
      clear cX0 cX1 cX2 ltX cY0 cY1 cY2 ltY cR0 cR1 cR2 ltR
      replace CX := Lib.hid (CX.out.after hb2)
      replace CY := Lib.hid (CY.out.after hb2)
      replace CR := Lib.hid (CR.out.after hb2)
      replace FXN := Lib.hid (FXN.out.after hb2)
      replace FXD := Lib.hid (FXD.out.after hb2)
      replace FYN := Lib.hid (FYN.out.after hb2)
      replace FYD := Lib.hid (FYD.out.after hb2)
      replace Fq := Lib.hid (Fq.out.after hb2)
      replace Fr := Lib.hid (Fr.out.after hb2)
      replace HB := Lib.hid (HB.out.trans (hb2.mono HB.out.size))
      clear hb2
      obtain ⟨cX0, cX1, cX2⟩ := CX.out.cells3
      have ltX := CX.out.lt
      obtain ⟨cY0, cY1, cY2⟩ := CY.out.cells3
      have ltY := CY.out.lt
      obtain ⟨cR0, cR1, cR2⟩ := CR.out.cells3
      have ltR := CR.out.lt
      have zR0 := CR.out.frozen 0
      have zR1 := CR.out.frozen 1
      have zR2 := CR.out.frozen 2
      go_wp2_with fail
      refine bodyPost_ret (v := .agg #[.bool false, .slice pA (limbs (q)).length mA, .slice qA (limbs (1)).length nA]) (by simp [results, Try.results81, go_sem, cR0, cR1, cR2, fr]) rfl ?_
      rw [HS.out]
      exact retF1_end (x := fr false (q) (1)) HB.out CR.out (fun _ h => by cases h) (fun _ h => by cases h) (by omega) FA.out.parts.2.1 FA.out.parts.2.2
    · obtain ⟨r, hrr⟩ : ∃ r, a % b = r := ⟨_, rfl⟩
      have hrp : 0 < r := by rw [← hrr]; exact Nat.pos_of_ne_zero hr
      have hlr := limbs_len_pos hrp
      have hlb : ((limbs r).length == 0) = false := beq_eq_false_iff_ne.2 (by omega)
      have hlb2 : (((limbs r).length : Int) == 0) = false := beq_eq_false_iff_ne.2 (by omega)
      have QQ := Lib.hid hq
      have QR := Lib.hid hrr
      obtain ⟨o1, ho1⟩ : ∃ o1, ordN false (q + 1) 1 false c d = o1 := ⟨_, rfl⟩
      have HO := Lib.hid ho1
      by_cases hcd : c / d = q
      · have hsi := simpN_in hb hd hr (hcd.trans hq.symm)
        rw [hq, hrr] at hsi
        obtain ⟨r2, hr2⟩ : ∃ r2, c % d = r2 := ⟨_, rfl⟩
        have hr2p : 0 < r2 := by rw [← hr2]; exact rest_pos hb hr (hcd.trans hq.symm) hd hle
        have hle2 : d * r ≤ b * r2 := by rw [← hr2, ← hrr]; exact rest_le (hcd.trans hq.symm) hle
        rw [hr2] at hsi
        have hcm : d * q + r2 = c := by rw [← hcd, ← hr2]; exact Nat.div_add_mod c d
        have hso : decide (o1 ≤ 0) = false := by
          rw [← ho1, ordN_sg false false _ _ _ _ (by omega) hd (by omega) (by simp)]
          have h1 : ¬ sg false (q + 1) * d < sg false c * ((1 : Nat) : Int) := by
            show ¬ ((q + 1 : Nat) : Int) * d < (c : Int) * ((1 : Nat) : Int)
            have h2 : c < (q + 1) * d := by have := Nat.mod_lt c hd; rw [Nat.add_mul, Nat.one_mul, Nat.mul_comm q d]; omega
            have h3 : ((c : Nat) : Int) < (((q + 1) * d : Nat) : Int) := by omega
            push_cast at h3 ⊢
            omega
          have h4 : ¬ sg false (q + 1) * d = sg false c * ((1 : Nat) : Int) := by
            show ¬ ((q + 1 : Nat) : Int) * d = (c : Int) * ((1 : Nat) : Int)
            have h2 : c < (q + 1) * d := by have := Nat.mod_lt c hd; rw [Nat.add_mul, Nat.one_mul, Nat.mul_comm q d]; omega
            have h3 : ((c : Nat) : Int) < (((q + 1) * d : Nat) : Int) := by omega
            push_cast at h3 ⊢
            omega
          rw [if_neg h1, if_neg h4]; decide
        have gcd1 : Nat.gcd r2 d = 1 := by rw [← hr2]; have := ok2.gcd; rwa [← Nat.gcd_rec, Nat.gcd_comm]
        have gcd2 : Nat.gcd b r = 1 := by rw [← hrr, Nat.gcd_comm, ← Nat.gcd_rec, Nat.gcd_comm]; exact ok1.gcd
        have lr2 : (limbs r2).length ≤ 32 := Nat.le_trans (limbs_len_mono (by rw [← hr2]; exact Nat.mod_le c d)) LC.out
        have lr1 : (limbs r).length ≤ 32 := Nat.le_trans (limbs_len_mono (by rw [← hrr]; exact Nat.mod_le a b)) LA.out
        have okh : Ok false r2 d := ⟨lr2, LD.out, hd, gcd1, fun _ => rfl⟩
        have oka : Ok false d r2 := ⟨LD.out, lr2, hr2p, by rw [Nat.gcd_comm]; exact gcd1, fun _ => rfl⟩
        have okb : Ok false b r := ⟨LB.out, lr1, hrp, gcd2, fun _ => rfl⟩
        have okq : Ok false q 1 := ⟨LQ.out, M1.out, by omega, Nat.gcd_one_right q, fun _ => rfl⟩
        have HSUB : Hid (opF subN (fr false c d) (fr false q 1) = (fr false r2 d, 0)) := by
          show _ = _
          rw [rep_sub (rep_of_ok ok2) (rep_of_ok okq), ← (rep_of_ok okh).made]
          have e1 : sg false c * ((1 : Nat) : Int) - sg false q * (d : Int) = sg false r2 := by
            show (c : Int) * ((1 : Nat) : Int) - (q : Int) * d = (r2 : Int)
            rw [← hcm]; push_cast; rw [Int.mul_comm (d : Int)]; omega
          rw [e1, Nat.mul_one]
        have hklt : r2 + r < k := by
          have h1 := Nat.mod_lt c hd
          have h2 := Nat.mod_lt a hb
          omega
        have IH := Lib.hid (fun W V U h1 h2 => ih (r2 + r) hklt W V U d r2 b r rfl h1 h2 oka okb hle2)
        obtain ⟨l1, l2⟩ := simp_len hr2p hrp hle2 LD.out lr2
        obtain ⟨x1, hx1⟩ : ∃ x1, (simpN d r2 b r).1 = x1 := ⟨_, rfl⟩
        obtain ⟨x2, hx2⟩ : ∃ x2, (simpN d r2 b r).2 = x2 := ⟨_, rfl⟩
        rw [hx1, hx2] at IH hsi
        rw [hx1] at l1
        rw [hx2] at l2
        have L1 := Lib.hid l1
        have L2 := Lib.hid l2
        have L3 : Hid ((limbs (q * x1)).length ≤ 64) := by show _ ≤ _; have h1 := limbs_mul_len q x1; have h2 := LQ.out; omega
        have HS : Hid (R = fr false (q * x1 + x2) x1) := by show _ = _; rw [← hR, hsi]
        have L4 := Lib.hid lr1
        clear hR hq hr hrr ho1 hcd ih ok1 ok2 hle hk hsi hr2 hle2 hcm gcd1 gcd2 lr1 lr2 okh oka okb okq hklt l1 l2 hx1 hx2 hrp hr2p
        go_enter Try.func81, Try.ntmps81
        go_upto_region 1 with fail
        rw [← hW]
        clear hW
        obtain ⟨cX0, cX1, cX2⟩ := CX.out.cells3
        have ltX := CX.out.lt
        obtain ⟨cY0, cY1, cY2⟩ := CY.out.cells3
        have ltY := CY.out.lt
        obtain ⟨cR0, cR1, cR2⟩ := CR.out.cells3
        have ltR := CR.out.lt
        go_wp2_with fail
        refine (Quotient_c _ _ _ a b FXN.out FXD.out hb KA.out KB.out).mono ?_
        rw [QQ.out, QR.out]
        rintro e w1 ⟨v1, v2, rfl, hv1, hv2, hb1⟩
        obtain ⟨pq, cq, rfl, _, _⟩ := hv1.shape
        obtain ⟨pr, cr, rfl, _, _⟩ := hv2.shape
        have Fq := Lib.hid hv1
        have Fr := Lib.hid hv2
        clear hv1 hv2
        clear cX0 cX1 cX2 ltX cY0 cY1 cY2 ltY cR0 cR1 cR2 ltR
        replace CX := Lib.hid (CX.out.after hb1)
        replace CY := Lib.hid (CY.out.after hb1)
        replace CR := Lib.hid (CR.out.after hb1)
        replace FXN := Lib.hid (FXN.out.after hb1)
        replace FXD := Lib.hid (FXD.out.after hb1)
        replace FYN := Lib.hid (FYN.out.after hb1)
        replace FYD := Lib.hid (FYD.out.after hb1)
        replace HB := Lib.hid (HB.out.trans (hb1.mono HB.out.size))
        clear hb1
        obtain ⟨cX0, cX1, cX2⟩ := CX.out.cells3
        have ltX := CX.out.lt
        obtain ⟨cY0, cY1, cY2⟩ := CY.out.cells3
        have ltY := CY.out.lt
        obtain ⟨cR0, cR1, cR2⟩ := CR.out.cells3
        have ltR := CR.out.lt
        go_wp2_with fail
        refine (Sum_n _ _ _ q 1 (Fq.out.alloc _) (Sl_1 _) (Nat.le_trans LQ.out (by omega)) (Nat.le_trans M1.out (by omega))).mono ?_
        rintro e w11 ⟨v, rfl, hv, hb11⟩
        have hv : Sl _ v (limbs (q + 1)) := hv
        obtain ⟨ps, qs, rfl, _, _⟩ := hv.shape
        have Fs := Lib.hid hv
        clear hv
        clear cX0 cX1 cX2 ltX cY0 cY1 cY2 ltY cR0 cR1 cR2 ltR
        obtain ⟨hb11, CO⟩ := after_new hb11
        replace CO := Lib.hid CO
        replace CX := Lib.hid (CX.out.after hb11)
        replace CY := Lib.hid (CY.out.after hb11)
        replace CR := Lib.hid (CR.out.after hb11)
        replace FXN := Lib.hid (FXN.out.after hb11)
        replace FXD := Lib.hid (FXD.out.after hb11)
        replace FYN := Lib.hid (FYN.out.after hb11)
        replace FYD := Lib.hid (FYD.out.after hb11)
        replace Fq := Lib.hid (Fq.out.after hb11)
        replace Fr := Lib.hid (Fr.out.after hb11)
        replace HB := Lib.hid (HB.out.trans (hb11.mono HB.out.size))
        clear hb11
        clear CO
        obtain ⟨cX0, cX1, cX2⟩ := CX.out.cells3
        have ltX := CX.out.lt
        obtain ⟨cY0, cY1, cY2⟩ := CY.out.cells3
        have ltY := CY.out.lt
        obtain ⟨cR0, cR1, cR2⟩ := CR.out.cells3
        have ltR := CR.out.lt
        go_wp2_with fail
        refine (rwhole_c _ _ (q + 1) Fs.out).mono ?_
        rintro e w12 ⟨v, rfl, hv, hb12⟩
        have hv : IsF _ v (fr false (q + 1) 1) := hv
        obtain ⟨va, vb, rfl, h1, h2⟩ := hv
        obtain ⟨pA, mA, rfl, _, _⟩ := h1.shape
        obtain ⟨qA, nA, rfl, _, _⟩ := h2.shape
        have FA := Lib.hid (IsF.at_ h1 h2)
        clear h1 h2
        clear cX0 cX1 cX2 ltX cY0 cY1 cY2 ltY cR0 cR1 cR2 ltR
        replace CX := Lib.hid (CX.out.after hb12)
        replace CY := Lib.hid (CY.out.after hb12)
        replace CR := Lib.hid (CR.out.after hb12)
        replace FXN := Lib.hid (FXN.out.after hb12)
        replace FXD := Lib.hid (FXD.out.after hb12)
        replace FYN := Lib.hid (FYN.out.after hb12)
        replace FYD := Lib.hid (FYD.out.after hb12)
        replace Fq := Lib.hid (Fq.out.after hb12)
        replace Fr := Lib.hid (Fr.out.after hb12)
        replace Fs := Lib.hid (Fs.out.after hb12)
        replace HB := Lib.hid (HB.out.trans (hb12.mono HB.out.size))
        clear hb12
        have d_X_A : w.heap.size < w12.heap.size := CX.out.lt
        have d_Y_A : (w.heap.size + 1) < w12.heap.size := CY.out.lt
        have d_R_A : (w.heap.size + 2) < w12.heap.size := CR.out.lt
        have g_A : w.heap.size ≤ w12.heap.size := by have := HB.out.size; omega
        obtain ⟨cX0, cX1, cX2⟩ := CX.out.cells3
        have ltX := CX.out.lt
        obtain ⟨cY0, cY1, cY2⟩ := CY.out.cells3
        have ltY := CY.out.lt
        obtain ⟨cR0, cR1, cR2⟩ := CR.out.cells3
        have ltR := CR.out.lt
        go_wp2_with fail
        refine (rorder_c _ _ _ false false (q + 1) 1 c d (FA.out.alloc _) ⟨_, _, rfl, (FYN.out.alloc _), (FYD.out.alloc _)⟩ (Nat.le_trans LQ1.out (by omega)) (Nat.le_trans M1.out (by omega)) (Nat.le_trans LC.out (by omega)) (Nat.le_trans LD.out (by omega))).mono ?_
        rw [HO.out]
        rintro e w13 ⟨rfl, hb13⟩
        clear cX0 cX1 cX2 ltX cY0 cY1 cY2 ltY cR0 cR1 cR2 ltR
        obtain ⟨hb13, CA⟩ := after_new hb13
        replace CA := Lib.hid CA
        replace CX := Lib.hid (CX.out.after hb13)
        replace CY := Lib.hid (CY.out.after hb13)
        replace CR := Lib.hid (CR.out.after hb13)
        replace FXN := Lib.hid (FXN.out.after hb13)
        replace FXD := Lib.hid (FXD.out.after hb13)
        replace FYN := Lib.hid (FYN.out.after hb13)
        replace FYD := Lib.hid (FYD.out.after hb13)
        replace Fq := Lib.hid (Fq.out.after hb13)
        replace Fr := Lib.hid (Fr.out.after hb13)
        replace Fs := Lib.hid (Fs.out.after hb13)
        replace FA := Lib.hid (FA.out.after hb13)
        replace HB := Lib.hid (HB.out.trans (hb13.mono HB.out.size))
        clear hb13
        obtain ⟨cX0, cX1, cX2⟩ := CX.out.cells3
        have ltX := CX.out.lt
        obtain ⟨cY0, cY1, cY2⟩ := CY.out.cells3
        have ltY := CY.out.lt
        obtain ⟨cR0, cR1, cR2⟩ := CR.out.cells3
        have ltR := CR.out.lt
        obtain ⟨cA0, cA1, cA2⟩ := CA.out.cells3
        have ltA := CA.out.lt
        go_upto_region 7 with fail
        clear cX0 cX1 cX2 ltX cY0 cY1 cY2 ltY cR0 cR1 cR2 ltR cA0 cA1 cA2 ltA
        refine wp_region_gj (J := GJ _ (fun _ => SK (fun κ => match κ with | 0 => .eq (.agg #[.bool false, .slice pY (limbs c).length mY, .slice qY (limbs d).length nY]) | 1 => .eq (.slice pq (limbs q).length cq) | 2 => .isF (fr false q 1) | 3 => .tup (fr false r2 d) (0) | 4 => .tup (fr false r2 d) (0) | 5 => .isF (fr false r2 d) | 6 => .eq (.int .i64 (0)) | 7 => .any | 9 => .eq (.int .i64 0) | _ => .any)) (CV w13 [⟨7, 8, fr false r2 d, 8⟩]) _) (by kernel_rfl) ?_ ?_ (GJ.start CV.start)
        · intro listed a w9 i hr hj
          obtain ⟨hi12, hun, _, _, _⟩ := ready_mem hr
          have h12 : i ∈ List.range 10 := List.mem_range.2 hi12
          simp only [List.range, List.range.loop, List.mem_cons, List.not_mem_nil, or_false] at h12
          obtain ⟨f, rfl, hcm, hf⟩ := hj.opened [34, 35, 36, 37, 33, 38, 39, 8, 9] (by kernel_rfl)
          replace hcm : CV w13 [⟨7, 8, fr false r2 d, 8⟩] listed f w9 := hcm
          rcases h12 with rfl | rfl | rfl | rfl | rfl | rfl | rfl | rfl | rfl | rfl
          · obtain ⟨k0, k1, k2⟩ := (CY.out.after hcm.1).cells3
            have klt := (CY.out.after hcm.1).lt
            refine GJ.op hj (by kernel_rfl) hr rfl [34, 35, 36, 37, 33, 38, 39, 8, 9] (by kernel_rfl) (fun K hK => ?_)
            simp only [Act.put, List.foldl_cons, List.foldl_nil, List.setIfInBounds_toArray, List.set_cons_zero, List.set_cons_succ] at hK ⊢
            clear hj hf
            go_simp
            exact hK _ _ (fun k v _ _ h => h.keep (Below.refl _ _)) (fun t ht => SK.of (.eq (.agg #[.bool false, .slice pY (limbs c).length mY, .slice qY (limbs d).length nY])) rfl rfl) (hcm.keep (Below.refl _ _) (fun e he => by simp only [List.mem_cons, List.not_mem_nil, or_false] at he; rcases he with rfl <;> (first | rfl | simp)) (fun e he => by simp only [List.mem_cons, List.not_mem_nil, or_false] at he; rcases he with rfl <;> (first | rfl | simp)))
          · refine GJ.op hj (by kernel_rfl) hr rfl [34, 35, 36, 37, 33, 38, 39, 8, 9] (by kernel_rfl) (fun K hK => ?_)
            simp only [Act.put, List.foldl_cons, List.foldl_nil, List.setIfInBounds_toArray, List.set_cons_zero, List.set_cons_succ] at hK ⊢
            clear hj hf
            go_simp
            exact hK _ _ (fun k v _ _ h => h.keep (Below.refl _ _)) (fun t ht => SK.of (.eq (.slice pq (limbs q).length cq)) rfl rfl) (hcm.keep (Below.refl _ _) (fun e he => by simp only [List.mem_cons, List.not_mem_nil, or_false] at he; rcases he with rfl <;> (first | rfl | simp)) (fun e he => by simp only [List.mem_cons, List.not_mem_nil, or_false] at he; rcases he with rfl <;> (first | rfl | simp)))
          · have e1 : f 35 = .slice pq (limbs q).length cq := hf 1 _ _ rfl rfl (up_dep hr (by kernel_rfl))
            refine GJ.op hj (by kernel_rfl) hr rfl [34, 35, 36, 37, 33, 38, 39, 8, 9] (by kernel_rfl) (fun K hK => ?_)
            simp only [Act.put, List.foldl_cons, List.foldl_nil, List.setIfInBounds_toArray, List.set_cons_zero, List.set_cons_succ] at hK ⊢
            clear hj hf
            rw [e1] at hK ⊢
            clear e1
            go_simp
            refine (rwhole_c w9 _ q (Fq.out.after hcm.1)).mono ?_
            rintro e w10 ⟨v10, rfl, hv10, hb10⟩
            exact hK _ _ (fun k v _ _ h => h.keep hb10) (fun t ht => SK.of (.isF (fr false q 1)) rfl hv10) (hcm.keep hb10 (fun e he => by simp only [List.mem_cons, List.not_mem_nil, or_false] at he; rcases he with rfl <;> (first | rfl | simp)) (fun e he => by simp only [List.mem_cons, List.not_mem_nil, or_false] at he; rcases he with rfl <;> (first | rfl | simp)))
          · have e1 : f 34 = .agg #[.bool false, .slice pY (limbs c).length mY, .slice qY (limbs d).length nY] := hf 0 _ _ rfl rfl (up_dep hr (by kernel_rfl))
            have s2 : IsF w9 (f 36) (fr false q 1) := hf 2 _ _ rfl rfl (up_dep hr (by kernel_rfl))
            refine GJ.op hj (by kernel_rfl) hr rfl [34, 35, 36, 37, 33, 38, 39, 8, 9] (by kernel_rfl) (fun K hK => ?_)
            simp only [Act.put, List.foldl_cons, List.foldl_nil, List.setIfInBounds_toArray, List.set_cons_zero, List.set_cons_succ] at hK ⊢
            clear hj hf
            rw [e1] at hK ⊢
            clear e1
            go_simp
            refine (rSub_c w9 _ _ (fr false c d) (fr false q 1) ⟨_, _, rfl, (FYN.out.after hcm.1), (FYD.out.after hcm.1)⟩ s2).mono ?_
            rw [HSUB.out]
            rintro e w10 ⟨v10, rfl, hv10, hb10⟩
            exact hK _ _ (fun k v _ _ h => h.keep hb10) (fun t ht => SK.of (.tup (fr false r2 d) (0)) rfl ⟨_, rfl, hv10⟩) (hcm.keep hb10 (fun e he => by simp only [List.mem_cons, List.not_mem_nil, or_false] at he; rcases he with rfl <;> (first | rfl | simp)) (fun e he => by simp only [List.mem_cons, List.not_mem_nil, or_false] at he; rcases he with rfl <;> (first | rfl | simp)))
          · obtain ⟨u1, e1, s1⟩ : ∃ u, f 37 = .tuple #[u, .int .i64 (0)] ∧ IsF w9 u (fr false r2 d) := hf 3 _ _ rfl rfl (up_dep hr (by kernel_rfl))
            refine GJ.op hj (by kernel_rfl) hr rfl [34, 35, 36, 37, 33, 38, 39, 8, 9] (by kernel_rfl) (fun K hK => ?_)
            simp only [Act.put, List.foldl_cons, List.foldl_nil, List.setIfInBounds_toArray, List.set_cons_zero, List.set_cons_succ] at hK ⊢
            clear hj hf
            rw [e1] at hK ⊢
            clear e1
            go_simp
            exact hK _ _ (fun k v _ _ h => h.keep (Below.refl _ _)) (fun t ht => SK.of (.tup (fr false r2 d) (0)) rfl ⟨_, rfl, s1⟩) (hcm.keep (Below.refl _ _) (fun e he => by simp only [List.mem_cons, List.not_mem_nil, or_false] at he; rcases he with rfl <;> (first | rfl | simp)) (fun e he => by simp only [List.mem_cons, List.not_mem_nil, or_false] at he; rcases he with rfl <;> (first | rfl | simp)))
          · obtain ⟨u1, e1, s1⟩ : ∃ u, f 33 = .tuple #[u, .int .i64 (0)] ∧ IsF w9 u (fr false r2 d) := hf 4 _ _ rfl rfl (up_dep hr (by kernel_rfl))
            refine GJ.op hj (by kernel_rfl) hr rfl [34, 35, 36, 37, 33, 38, 39, 8, 9] (by kernel_rfl) (fun K hK => ?_)
            simp only [Act.put, List.foldl_cons, List.foldl_nil, List.setIfInBounds_toArray, List.set_cons_zero, List.set_cons_succ] at hK ⊢
            clear hj hf
            rw [e1] at hK ⊢
            clear e1
            go_simp
            exact hK _ _ (fun k v _ _ h => h.keep (Below.refl _ _)) (fun t ht => SK.of (.isF (fr false r2 d)) rfl s1) (hcm.keep (Below.refl _ _) (fun e he => by simp only [List.mem_cons, List.not_mem_nil, or_false] at he; rcases he with rfl <;> (first | rfl | simp)) (fun e he => by simp only [List.mem_cons, List.not_mem_nil, or_false] at he; rcases he with rfl <;> (first | rfl | simp)))
          · obtain ⟨u1, e1, s1⟩ : ∃ u, f 33 = .tuple #[u, .int .i64 (0)] ∧ IsF w9 u (fr false r2 d) := hf 4 _ _ rfl rfl (up_dep hr (by kernel_rfl))
            refine GJ.op hj (by kernel_rfl) hr rfl [34, 35, 36, 37, 33, 38, 39, 8, 9] (by kernel_rfl) (fun K hK => ?_)
            simp only [Act.put, List.foldl_cons, List.foldl_nil, List.setIfInBounds_toArray, List.set_cons_zero, List.set_cons_succ] at hK ⊢
            clear hj hf
            rw [e1] at hK ⊢
            clear e1
            go_simp
            exact hK _ _ (fun k v _ _ h => h.keep (Below.refl _ _)) (fun t ht => SK.of (.eq (.int .i64 (0))) rfl rfl) (hcm.keep (Below.refl _ _) (fun e he => by simp only [List.mem_cons, List.not_mem_nil, or_false] at he; rcases he with rfl <;> (first | rfl | simp)) (fun e he => by simp only [List.mem_cons, List.not_mem_nil, or_false] at he; rcases he with rfl <;> (first | rfl | simp)))
          · have nst : ¬ up listed 8 := fun h => not_up hun (hj.closed 8 7 h (by kernel_rfl))
            refine GJ.op hj (by kernel_rfl) hr rfl [34, 35, 36, 37, 33, 38, 39, 8, 9] (by kernel_rfl) (fun K hK => ?_)
            simp only [Act.put, List.foldl_cons, List.foldl_nil, List.setIfInBounds_toArray, List.set_cons_zero, List.set_cons_succ] at hK ⊢
            clear hj hf
            go_simp
            exact hK _ _ (fun k v _ _ h => h.keep (held_alloc (Below.refl _ _))) (fun t ht => SK.of .any rfl trivial) (hcm.new ⟨7, 8, fr false r2 d, 8⟩ (by simp) rfl (fun e he => by simp only [List.mem_cons, List.not_mem_nil, or_false] at he; rcases he with rfl <;> (first | (intro _; rfl) | simp)) (fun e he => by simp only [List.mem_cons, List.not_mem_nil, or_false] at he; rcases he with rfl <;> (first | (intro _; rfl) | simp)) (fun e he => by simp only [List.mem_cons, List.not_mem_nil, or_false] at he; rcases he with rfl <;> (first | rfl | simp)) nst rfl (fun e he => by simp only [List.mem_cons, List.not_mem_nil, or_false] at he; rcases he with rfl <;> (first | (intro _; rfl) | simp)))
          · have hcl := hj.closed
            have hsz := hj.lsize
            have hlt : 8 < listed.size := by rw [hsz]; decide
            have hua : ∀ e ∈ ([⟨7, 8, fr false r2 d, 8⟩] : List VE), up listed e.al := fun e he => by simp only [List.mem_cons, List.not_mem_nil, or_false] at he; rcases he with rfl <;> exact up_dep hr (by kernel_rfl)
            have s1 : IsF w9 (f 38) (fr false r2 d) := (hf 5 _ _ rfl rfl (up_dep hr (by kernel_rfl)))
            obtain ⟨blk, e1, hbw, hbl, hyes, hnot⟩ := hcm.2.1 ⟨7, 8, fr false r2 d, 8⟩ (by simp) (up_dep hr (by kernel_rfl))
            have hz : zeroB w9 blk := hnot (not_up hun)
            obtain ⟨va, vb, e2, h1, h2⟩ := s1
            obtain ⟨pa, ca, rfl, _, _⟩ := h1.shape
            obtain ⟨pb, cb, rfl, _, _⟩ := h2.shape
            refine GJ.op hj (by kernel_rfl) hr rfl [34, 35, 36, 37, 33, 38, 39, 8, 9] (by kernel_rfl) (fun K hK => ?_)
            simp only [Act.put, List.foldl_cons, List.foldl_nil, List.setIfInBounds_toArray, List.set_cons_zero, List.set_cons_succ] at hK ⊢
            clear hj hf
            obtain ⟨z0, z1, z2⟩ := Box.cells3 hz
            have q0 := Box.frozen hz 0
            have q1 := Box.frozen hz 1
            have q2 := Box.frozen hz 2
            obtain ⟨za, hza⟩ : ∃ z, f 8 = z := ⟨_, rfl⟩
            obtain ⟨zb, hzb⟩ : ∃ z, f 38 = z := ⟨_, rfl⟩
            rw [hza, hzb] at hK ⊢
            simp only at e1
            rw [hza] at e1
            rw [hzb] at e2
            subst e1 e2
            clear hzb
            go_simp
            exact hK undef _ (fun k v _ _ h => h.fx (fx_set3 blk _ _ _) (Box.noT hz)) (fun t ht => by cases ht) (hcm.put ⟨7, 8, fr false r2 d, 8⟩ (by simp) rfl (fun e he => by simp only [List.mem_cons, List.not_mem_nil, or_false] at he; rcases he with rfl <;> (first | (intro _; rfl) | simp)) (fun e he => by simp only [List.mem_cons, List.not_mem_nil, or_false] at he; rcases he with rfl <;> (first | (intro _; rfl) | simp)) hlt hua hza hz ⟨_, _, rfl, h1, h2⟩ (fun e he => by simp only [List.mem_cons, List.not_mem_nil, or_false] at he; rcases he with rfl <;> (first | rfl | exact hza.symm)))
          · have e1 : f 39 = .int .i64 (0) := hf 6 _ _ rfl rfl (up_dep hr (by kernel_rfl))
            refine GJ.op hj (by kernel_rfl) hr rfl [34, 35, 36, 37, 33, 38, 39, 8, 9] (by kernel_rfl) (fun K hK => ?_)
            simp only [Act.put, List.foldl_cons, List.foldl_nil, List.setIfInBounds_toArray, List.set_cons_zero, List.set_cons_succ] at hK ⊢
            clear hj hf
            rw [e1] at hK ⊢
            clear e1
            go_simp
            exact hK _ _ (fun k v _ _ h => h.keep (Below.refl _ _)) (fun t ht => SK.of (.eq (.int .i64 0)) rfl rfl) (hcm.keep (Below.refl _ _) (fun e he => by simp only [List.mem_cons, List.not_mem_nil, or_false] at he; rcases he with rfl <;> (first | rfl | simp)) (fun e he => by simp only [List.mem_cons, List.not_mem_nil, or_false] at he; rcases he with rfl <;> (first | rfl | simp)))
        · intro listed a w20 hr hj
          have hu : ∀ k, k < 10 → up listed k := fun k hk => all_up (by kernel_rfl) hj.lsize hr k hk
          obtain ⟨f, rfl, hcm, hf⟩ := hj.opened [34, 35, 36, 37, 33, 38, 39, 8, 9] (by kernel_rfl)
          replace hcm : CV w13 [⟨7, 8, fr false r2 d, 8⟩] listed f w20 := hcm
          obtain ⟨B8, e5, gg, vv⟩ := hcm.done ⟨7, 8, fr false r2 d, 8⟩ (by simp) (hu 7 (by omega)) (hu 8 (by omega))
          have hbn : Below w13.heap.size w13 w20 := hcm.1
          have HVH := Lib.hid vv
          simp only at e5 HVH
          clear hcm hf hj hr hu vv
          simp only [List.foldl_cons, List.foldl_nil, List.setIfInBounds_toArray, List.set_cons_zero, List.set_cons_succ]
          rw [e5]
          clear e5
          generalize f 34 = g34
          generalize f 35 = g35
          generalize f 36 = g36
          generalize f 37 = g37
          generalize f 33 = g33
          generalize f 38 = g38
          generalize f 39 = g39
          generalize f 9 = g9
          clear f
          replace CX := Lib.hid (CX.out.after hbn)
          replace CY := Lib.hid (CY.out.after hbn)
          replace CR := Lib.hid (CR.out.after hbn)
          replace CA := Lib.hid (CA.out.after hbn)
          replace FXN := Lib.hid (FXN.out.after hbn)
          replace FXD := Lib.hid (FXD.out.after hbn)
          replace FYN := Lib.hid (FYN.out.after hbn)
          replace FYD := Lib.hid (FYD.out.after hbn)
          replace Fq := Lib.hid (Fq.out.after hbn)
          replace Fr := Lib.hid (Fr.out.after hbn)
          replace Fs := Lib.hid (Fs.out.after hbn)
          replace FA := Lib.hid (FA.out.after hbn)
          replace HB := Lib.hid (HB.out.trans (hbn.mono HB.out.size))
          clear hbn
          obtain ⟨va, vb, hbx, h1, h2⟩ := HVH.out
          obtain ⟨pH, mH, rfl, _, _⟩ := h1.shape
          obtain ⟨qH, nH, rfl, _, _⟩ := h2.shape
          have CH := Lib.hid hbx
          have FH := Lib.hid (IsF.at_ h1 h2)
          clear hbx h1 h2
          clear HVH
          replace CH : Hid (Box w20 B8 #[.bool false, .slice pH (limbs r2).length mH, .slice qH (limbs d).length nH] 25) := CH
          obtain ⟨_, i1, i2⟩ := FH.out.parts
          replace i1 : Sl _ _ (limbs (r2)) := i1
          replace i2 : Sl _ _ (limbs (d)) := i2
          have FHN := Lib.hid i1
          have FHD := Lib.hid i2
          clear i1 i2
          obtain ⟨cX0, cX1, cX2⟩ := CX.out.cells3
          have ltX := CX.out.lt
          obtain ⟨cY0, cY1, cY2⟩ := CY.out.cells3
          have ltY := CY.out.lt
          obtain ⟨cR0, cR1, cR2⟩ := CR.out.cells3
          have ltR := CR.out.lt
          obtain ⟨cA0, cA1, cA2⟩ := CA.out.cells3
          have ltA := CA.out.lt
          obtain ⟨cH0, cH1, cH2⟩ := CH.out.cells3
          have ltH := CH.out.lt
          go_wp2_with fail
          refine (IH.out _ _ _ ⟨_, _, rfl, FHD.out, FHN.out⟩ ⟨_, _, rfl, FXD.out, Fr.out⟩).mono ?_
          rintro e w21 ⟨v, rfl, hv, hb21⟩
          have hv : IsF _ v (fr false x1 x2) := hv
          obtain ⟨va, vb, rfl, h1, h2⟩ := hv
          obtain ⟨pS, mS, rfl, _, _⟩ := h1.shape
          obtain ⟨qS, nS, rfl, _, _⟩ := h2.shape
          have FS := Lib.hid (IsF.at_ h1 h2)
          clear h1 h2
          clear cX0 cX1 cX2 ltX cY0 cY1 cY2 ltY cR0 cR1 cR2 ltR cA0 cA1 cA2 ltA cH0 cH1 cH2 ltH
          replace CX := Lib.hid (CX.out.after hb21)
          replace CY := Lib.hid (CY.out.after hb21)
          replace CR := Lib.hid (CR.out.after hb21)
          replace CA := Lib.hid (CA.out.after hb21)
          replace CH := Lib.hid (CH.out.after hb21)
          replace FXN := Lib.hid (FXN.out.after hb21)
          replace FXD := Lib.hid (FXD.out.after hb21)
          replace FYN := Lib.hid (FYN.out.after hb21)
          replace FYD := Lib.hid (FYD.out.after hb21)
          replace Fq := Lib.hid (Fq.out.after hb21)
          replace Fr := Lib.hid (Fr.out.after hb21)
          replace Fs := Lib.hid (Fs.out.after hb21)
          replace FA := Lib.hid (FA.out.after hb21)
          replace FH := Lib.hid (FH.out.after hb21)
          replace FHN := Lib.hid (FHN.out.after hb21)
          replace FHD := Lib.hid (FHD.out.after hb21)
          replace HB := Lib.hid (HB.out.trans (hb21.mono HB.out.size))
          clear hb21
          have d_X_S : w.heap.size < w21.heap.size := CX.out.lt
          have d_Y_S : (w.heap.size + 1) < w21.heap.size := CY.out.lt
          have d_R_S : (w.heap.size + 2) < w21.heap.size := CR.out.lt
          have d_A_S : w12.heap.size < w21.heap.size := CA.out.lt
          have d_H_S : B8 < w21.heap.size := CH.out.lt
          have g_S : w.heap.size ≤ w21.heap.size := by have := HB.out.size; omega
          obtain ⟨cX0, cX1, cX2⟩ := CX.out.cells3
          have ltX := CX.out.lt
          obtain ⟨cY0, cY1, cY2⟩ := CY.out.cells3
          have ltY := CY.out.lt
          obtain ⟨cR0, cR1, cR2⟩ := CR.out.cells3
          have ltR := CR.out.lt
          obtain ⟨cA0, cA1, cA2⟩ := CA.out.cells3
          have ltA := CA.out.lt
          obtain ⟨cH0, cH1, cH2⟩ := CH.out.cells3
          have ltH := CH.out.lt
          go_upto_region 9 with fail
          clear cX0 cX1 cX2 ltX cY0 cY1 cY2 ltY cR0 cR1 cR2 ltR cA0 cA1 cA2 ltA cH0 cH1 cH2 ltH
          obtain ⟨w30, hw⟩ : ∃ w30, w30 = w21.alloc (.cells #[.bool (fr false x1 x2).neg, .slice pS (fr false x1 x2).num.length mS, .slice qS (fr false x1 x2).den.length nS] 25) := ⟨_, rfl⟩
          obtain ⟨hb2, CS⟩ := after_new (below_same hw)
          rw [← hw]
          clear hw
          replace FXN := Lib.hid (FXN.out.after hb2)
          replace FXD := Lib.hid (FXD.out.after hb2)
          replace FYN := Lib.hid (FYN.out.after hb2)
          replace FYD := Lib.hid (FYD.out.after hb2)
          replace Fq := Lib.hid (Fq.out.after hb2)
          replace Fr := Lib.hid (Fr.out.after hb2)
          replace Fs := Lib.hid (Fs.out.after hb2)
          replace FA := Lib.hid (FA.out.after hb2)
          replace FH := Lib.hid (FH.out.after hb2)
          replace FHN := Lib.hid (FHN.out.after hb2)
          replace FHD := Lib.hid (FHD.out.after hb2)
          replace FS := Lib.hid (FS.out.after hb2)
          replace CX := Lib.hid (CX.out.after hb2)
          replace CY := Lib.hid (CY.out.after hb2)
          replace CR := Lib.hid (CR.out.after hb2)
          replace CA := Lib.hid (CA.out.after hb2)
          replace CH := Lib.hid (CH.out.after hb2)
          replace HB := Lib.hid (HB.out.trans (hb2.mono HB.out.size))
          replace CS : Hid (Box w30 w21.heap.size #[.bool false, .slice pS (limbs x1).length mS, .slice qS (limbs x2).length nS] 25) := CS
          clear hb2
          obtain ⟨_, i1, i2⟩ := FS.out.parts
          replace i1 : Sl _ _ (limbs (x1)) := i1
          replace i2 : Sl _ _ (limbs (x2)) := i2
          have FSN := Lib.hid i1
          have FSD := Lib.hid i2
          clear i1 i2
          refine wp_region_gj (J := GJ _ (fun _ => SK (fun κ => match κ with | 0 => .eq (.slice pq (limbs q).length cq) | 1 => .eq (.pointer (some ⟨w21.heap.size, 1, none⟩)) | 2 => .eq (.slice pS (limbs x1).length mS) | 3 => .nat (q * x1) | 4 => .eq (.pointer (some ⟨w21.heap.size, 2, none⟩)) | 5 => .eq (.slice qS (limbs x2).length nS) | 6 => .nat (q * x1 + x2) | 7 => .eq (.pointer (some ⟨w21.heap.size, 1, none⟩)) | 8 => .eq (.slice pS (limbs x1).length mS) | 9 => .isF (fr false (q * x1 + x2) x1) | _ => .any)) (CO1 w30 10 (w.heap.size + 2) (fr false (q * x1 + x2) x1)) _) (by kernel_rfl) ?_ ?_ (GJ.start CO1.start)
          · intro listed a w9 i hr hj
            obtain ⟨hi12, hun, _, _, _⟩ := ready_mem hr
            have h12 : i ∈ List.range 11 := List.mem_range.2 hi12
            simp only [List.range, List.range.loop, List.mem_cons, List.not_mem_nil, or_false] at h12
            obtain ⟨f, rfl, hcm, hf⟩ := hj.opened [50, 51, 52, 53, 54, 55, 56, 57, 58, 59] (by kernel_rfl)
            replace hcm : CO1 w30 10 (w.heap.size + 2) (fr false (q * x1 + x2) x1) listed f w9 := hcm
            rcases h12 with rfl | rfl | rfl | rfl | rfl | rfl | rfl | rfl | rfl | rfl | rfl
            · have nO : ¬ up listed 10 := fun h => not_up hun (hj.closed 10 0 h (by kernel_rfl))
              have bw := hcm.1 nO
              refine GJ.op hj (by kernel_rfl) hr rfl [50, 51, 52, 53, 54, 55, 56, 57, 58, 59] (by kernel_rfl) (fun K hK => ?_)
              simp only [Act.put, List.foldl_cons, List.foldl_nil, List.setIfInBounds_toArray, List.set_cons_zero, List.set_cons_succ] at hK ⊢
              clear hj hf
              go_simp
              exact hK _ _ (fun k v _ _ h => h.keep (Below.refl _ _)) (fun t ht => SK.of (.eq (.slice pq (limbs q).length cq)) rfl rfl) (hcm.keep (Below.refl _ _) (by omega))
            · have nO : ¬ up listed 10 := fun h => not_up hun (hj.closed 10 1 h (by kernel_rfl))
              have bw := hcm.1 nO
              have klt := (CS.out.after bw).lt
              refine GJ.op hj (by kernel_rfl) hr rfl [50, 51, 52, 53, 54, 55, 56, 57, 58, 59] (by kernel_rfl) (fun K hK => ?_)
              simp only [Act.put, List.foldl_cons, List.foldl_nil, List.setIfInBounds_toArray, List.set_cons_zero, List.set_cons_succ] at hK ⊢
              clear hj hf
              go_simp
              exact hK _ _ (fun k v _ _ h => h.keep (Below.refl _ _)) (fun t ht => SK.of (.eq (.pointer (some ⟨w21.heap.size, 1, none⟩))) rfl rfl) (hcm.keep (Below.refl _ _) (by omega))
            · have nO : ¬ up listed 10 := fun h => not_up hun (hj.closed 10 2 h (by kernel_rfl))
              have bw := hcm.1 nO
              have e1 : f 51 = .pointer (some ⟨w21.heap.size, 1, none⟩) := hf 1 _ _ rfl rfl (up_dep hr (by kernel_rfl))
              obtain ⟨k0, k1, k2⟩ := (CS.out.after bw).cells3
              have klt := (CS.out.after bw).lt
              refine GJ.op hj (by kernel_rfl) hr rfl [50, 51, 52, 53, 54, 55, 56, 57, 58, 59] (by kernel_rfl) (fun K hK => ?_)
              simp only [Act.put, List.foldl_cons, List.foldl_nil, List.setIfInBounds_toArray, List.set_cons_zero, List.set_cons_succ] at hK ⊢
              clear hj hf
              rw [e1] at hK ⊢
              clear e1
              go_simp
              exact hK _ _ (fun k v _ _ h => h.keep (Below.refl _ _)) (fun t ht => SK.of (.eq (.slice pS (limbs x1).length mS)) rfl rfl) (hcm.keep (Below.refl _ _) (by omega))
            · have nO : ¬ up listed 10 := fun h => not_up hun (hj.closed 10 3 h (by kernel_rfl))
              have bw := hcm.1 nO
              have e1 : f 50 = .slice pq (limbs q).length cq := hf 0 _ _ rfl rfl (up_dep hr (by kernel_rfl))
              have e2 : f 52 = .slice pS (limbs x1).length mS := hf 2 _ _ rfl rfl (up_dep hr (by kernel_rfl))
              refine GJ.op hj (by kernel_rfl) hr rfl [50, 51, 52, 53, 54, 55, 56, 57, 58, 59] (by kernel_rfl) (fun K hK => ?_)
              simp only [Act.put, List.foldl_cons, List.foldl_nil, List.setIfInBounds_toArray, List.set_cons_zero, List.set_cons_succ] at hK ⊢
              clear hj hf
              rw [e1, e2] at hK ⊢
              clear e1 e2
              go_simp
              refine (Product_n w9 _ _ q x1 (Fq.out.after bw) (FSN.out.after bw) (Nat.le_trans LQ.out (by omega)) (Nat.le_trans L1.out (by omega))).mono ?_
              rintro e w10 ⟨v10, rfl, hv10, hb10⟩
              exact hK _ _ (fun k v _ _ h => h.keep hb10) (fun t ht => SK.of (.nat (q * x1)) rfl hv10) (hcm.keep hb10 (by omega))
            · have nO : ¬ up listed 10 := fun h => not_up hun (hj.closed 10 4 h (by kernel_rfl))
              have bw := hcm.1 nO
              have klt := (CS.out.after bw).lt
              refine GJ.op hj (by kernel_rfl) hr rfl [50, 51, 52, 53, 54, 55, 56, 57, 58, 59] (by kernel_rfl) (fun K hK => ?_)
              simp only [Act.put, List.foldl_cons, List.foldl_nil, List.setIfInBounds_toArray, List.set_cons_zero, List.set_cons_succ] at hK ⊢
              clear hj hf
              go_simp
              exact hK _ _ (fun k v _ _ h => h.keep (Below.refl _ _)) (fun t ht => SK.of (.eq (.pointer (some ⟨w21.heap.size, 2, none⟩))) rfl rfl) (hcm.keep (Below.refl _ _) (by omega))
            · have nO : ¬ up listed 10 := fun h => not_up hun (hj.closed 10 5 h (by kernel_rfl))
              have bw := hcm.1 nO
              have e1 : f 54 = .pointer (some ⟨w21.heap.size, 2, none⟩) := hf 4 _ _ rfl rfl (up_dep hr (by kernel_rfl))
              obtain ⟨k0, k1, k2⟩ := (CS.out.after bw).cells3
              have klt := (CS.out.after bw).lt
              refine GJ.op hj (by kernel_rfl) hr rfl [50, 51, 52, 53, 54, 55, 56, 57, 58, 59] (by kernel_rfl) (fun K hK => ?_)
              simp only [Act.put, List.foldl_cons, List.foldl_nil, List.setIfInBounds_toArray, List.set_cons_zero, List.set_cons_succ] at hK ⊢
              clear hj hf
              rw [e1] at hK ⊢
              clear e1
              go_simp
              exact hK _ _ (fun k v _ _ h => h.keep (Below.refl _ _)) (fun t ht => SK.of (.eq (.slice qS (limbs x2).length nS)) rfl rfl) (hcm.keep (Below.refl _ _) (by omega))
            · have nO : ¬ up listed 10 := fun h => not_up hun (hj.closed 10 6 h (by kernel_rfl))
              have bw := hcm.1 nO
              have s1 : Sl w9 (f 53) (limbs (q * x1)) := hf 3 _ _ rfl rfl (up_dep hr (by kernel_rfl))
              have e2 : f 55 = .slice qS (limbs x2).length nS := hf 5 _ _ rfl rfl (up_dep hr (by kernel_rfl))
              refine GJ.op hj (by kernel_rfl) hr rfl [50, 51, 52, 53, 54, 55, 56, 57, 58, 59] (by kernel_rfl) (fun K hK => ?_)
              simp only [Act.put, List.foldl_cons, List.foldl_nil, List.setIfInBounds_toArray, List.set_cons_zero, List.set_cons_succ] at hK ⊢
              clear hj hf
              rw [e2] at hK ⊢
              clear e2
              go_simp
              refine (Sum_n w9 _ _ (q * x1) x2 s1 (FSD.out.after bw) (Nat.le_trans L3.out (by omega)) (Nat.le_trans L2.out (by omega))).mono ?_
              rintro e w10 ⟨v10, rfl, hv10, hb10⟩
              exact hK _ _ (fun k v _ _ h => h.keep hb10) (fun t ht => SK.of (.nat (q * x1 + x2)) rfl hv10) (hcm.keep hb10 (by omega))
            · have nO : ¬ up listed 10 := fun h => not_up hun (hj.closed 10 7 h (by kernel_rfl))
              have bw := hcm.1 nO
              have klt := (CS.out.after bw).lt
              refine GJ.op hj (by kernel_rfl) hr rfl [50, 51, 52, 53, 54, 55, 56, 57, 58, 59] (by kernel_rfl) (fun K hK => ?_)
              simp only [Act.put, List.foldl_cons, List.foldl_nil, List.setIfInBounds_toArray, List.set_cons_zero, List.set_cons_succ] at hK ⊢
              clear hj hf
              go_simp
              exact hK _ _ (fun k v _ _ h => h.keep (Below.refl _ _)) (fun t ht => SK.of (.eq (.pointer (some ⟨w21.heap.size, 1, none⟩))) rfl rfl) (hcm.keep (Below.refl _ _) (by omega))
            · have nO : ¬ up listed 10 := fun h => not_up hun (hj.closed 10 8 h (by kernel_rfl))
              have bw := hcm.1 nO
              have e1 : f 57 = .pointer (some ⟨w21.heap.size, 1, none⟩) := hf 7 _ _ rfl rfl (up_dep hr (by kernel_rfl))
              obtain ⟨k0, k1, k2⟩ := (CS.out.after bw).cells3
              have klt := (CS.out.after bw).lt
              refine GJ.op hj (by kernel_rfl) hr rfl [50, 51, 52, 53, 54, 55, 56, 57, 58, 59] (by kernel_rfl) (fun K hK => ?_)
              simp only [Act.put, List.foldl_cons, List.foldl_nil, List.setIfInBounds_toArray, List.set_cons_zero, List.set_cons_succ] at hK ⊢
              clear hj hf
              rw [e1] at hK ⊢
              clear e1
              go_simp
              exact hK _ _ (fun k v _ _ h => h.keep (Below.refl _ _)) (fun t ht => SK.of (.eq (.slice pS (limbs x1).length mS)) rfl rfl) (hcm.keep (Below.refl _ _) (by omega))
            · have nO : ¬ up listed 10 := fun h => not_up hun (hj.closed 10 9 h (by kernel_rfl))
              have bw := hcm.1 nO
              have s1 : Sl w9 (f 56) (limbs (q * x1 + x2)) := hf 6 _ _ rfl rfl (up_dep hr (by kernel_rfl))
              have e2 : f 58 = .slice pS (limbs x1).length mS := hf 8 _ _ rfl rfl (up_dep hr (by kernel_rfl))
              refine GJ.op hj (by kernel_rfl) hr rfl [50, 51, 52, 53, 54, 55, 56, 57, 58, 59] (by kernel_rfl) (fun K hK => ?_)
              simp only [Act.put, List.foldl_cons, List.foldl_nil, List.setIfInBounds_toArray, List.set_cons_zero, List.set_cons_succ] at hK ⊢
              clear hj hf
              rw [e2] at hK ⊢
              clear e2
              obtain ⟨zb1, hzb⟩ : ∃ z, f 56 = z := ⟨_, rfl⟩
              rw [hzb] at hK s1 ⊢
              clear hzb
              obtain ⟨pz1, cz1, rfl, _, _⟩ := s1.shape
              go_simp
              exact hK (.agg #[.bool false, .slice pz1 (limbs (q * x1 + x2)).length cz1, .slice pS (limbs x1).length mS]) _ (fun k v _ _ h => h.keep (Below.refl _ _)) (fun t ht => SK.of (.isF (fr false (q * x1 + x2) x1)) rfl ⟨_, _, rfl, s1, (FSN.out.after bw)⟩) (hcm.keep (Below.refl _ _) (by omega))
            · have nO := not_up hun
              have bw := hcm.1 nO
              have bxw := CR.out.after bw
              have s1 : IsF w9 (f 59) (fr false (q * x1 + x2) x1) := hf 9 _ _ rfl rfl (up_dep hr (by kernel_rfl))
              obtain ⟨ua, ub, e1, h1, h2⟩ := s1
              obtain ⟨pa, ca, rfl, _, _⟩ := h1.shape
              obtain ⟨pb, cb, rfl, _, _⟩ := h2.shape
              have hsz7 := hj.lsize
              have hlt : 10 < listed.size := by rw [hsz7]; decide
              refine GJ.op hj (by kernel_rfl) hr rfl [50, 51, 52, 53, 54, 55, 56, 57, 58, 59] (by kernel_rfl) (fun K hK => ?_)
              simp only [Act.put, List.foldl_cons, List.foldl_nil, List.setIfInBounds_toArray, List.set_cons_zero, List.set_cons_succ] at hK ⊢
              clear hj hf
              obtain ⟨zb, hzb⟩ : ∃ z, f 59 = z := ⟨_, rfl⟩
              rw [hzb] at hK ⊢ e1
              subst e1
              clear hzb
              have y0 := (Box.cells3 bxw).1
              have y1 := (Box.cells3 bxw).2.1
              have y2 := (Box.cells3 bxw).2.2
              have yl := bxw.lt
              have q0 := bxw.frozen 0
              have q1 := bxw.frozen 1
              have q2 := bxw.frozen 2
              have BXW := Lib.hid bxw
              clear bxw
              go_simp
              exact hK undef _ (fun k v _ _ h => h.fx (fx_set3 _ _ _ _) (Box.noT BXW.out)) (fun t ht => by cases ht) (hcm.put nO hlt BXW.out h1 h2)
          · intro listed a w31 hr hj
            have hu : ∀ k, k < 11 → up listed k := fun k hk => all_up (by kernel_rfl) hj.lsize hr k hk
            obtain ⟨f, rfl, hcm, hf⟩ := hj.opened [50, 51, 52, 53, 54, 55, 56, 57, 58, 59] (by kernel_rfl)
            replace hcm : CO1 w30 10 (w.heap.size + 2) (fr false (q * x1 + x2) x1) listed f w31 := hcm
            obtain ⟨hfx, va, vb, hbx, g1, g2⟩ := hcm.2 (hu 10 (by omega))
            obtain ⟨y0, y1, y2⟩ := hbx.cells3
            obtain ⟨pz, cz, rfl, _, _⟩ := g1.shape
            obtain ⟨pz', cz', rfl, _, _⟩ := g2.shape
            have HB9 := Lib.hid (HB.out.trans (hfx.toBelow HB.out.size (fun g e => by rw [e]; omega)))
            have G1 := Lib.hid g1
            have G2 := Lib.hid g2
            clear hcm hf hj hr hu hfx hbx g1 g2
            simp only [List.foldl_cons, List.foldl_nil, List.setIfInBounds_toArray, List.set_cons_zero, List.set_cons_succ]
            generalize f 50 = g50
            generalize f 51 = g51
            generalize f 52 = g52
            generalize f 53 = g53
            generalize f 54 = g54
            generalize f 55 = g55
            generalize f 56 = g56
            generalize f 57 = g57
            generalize f 58 = g58
            generalize f 59 = g59
            clear f
            go_wp2_with fail
            refine bodyPost_ret (v := .agg #[.bool false, .slice pz (limbs (q * x1 + x2)).length cz, .slice pz' (limbs x1).length cz']) (by simp [results, Try.results81, go_sem, y0, y1, y2, fr]) rfl ?_
            rw [HS.out]
            exact ⟨_, rfl, ⟨_, _, rfl, G1.out, G2.out⟩, HB9.out⟩
      · have HS : Hid (R = fr false (q + 1) 1) := by show _ = _; rw [← hR, simpN_above hb hd hr (by rw [hq]; exact hcd), hq]
        have hso : decide (o1 ≤ 0) = true := by
          rw [← ho1, ordN_sg false false _ _ _ _ (by omega) hd (by omega) (by simp)]
          have h0 : q ≤ c / d := by rw [← hq]; exact div_le_of hb hd hle
          have h1 : (q + 1) * d ≤ c := Nat.le_trans (Nat.mul_le_mul_right d (show q + 1 ≤ c / d by omega)) (Nat.div_mul_le_self c d)
          have h3 : sg false (q + 1) * d ≤ sg false c * ((1 : Nat) : Int) := by
            show ((q + 1 : Nat) : Int) * d ≤ (c : Int) * ((1 : Nat) : Int)
            have h4 : (((q + 1) * d : Nat) : Int) ≤ ((c : Nat) : Int) := by omega
            push_cast at h4 ⊢
            omega
          by_cases h2 : sg false (q + 1) * d < sg false c * ((1 : Nat) : Int)
          · rw [if_pos h2]; decide
          · rw [if_neg h2, if_pos (by omega)]; decide
        clear hR hq hr hrr ho1 hcd ih ok1 ok2 hle hk hrp
        go_enter Try.func81, Try.ntmps81
        go_upto_region 1 with fail
        rw [← hW]
        clear hW
        obtain ⟨cX0, cX1, cX2⟩ := CX.out.cells3
        have ltX := CX.out.lt
        obtain ⟨cY0, cY1, cY2⟩ := CY.out.cells3
        have ltY := CY.out.lt
        obtain ⟨cR0, cR1, cR2⟩ := CR.out.cells3
        have ltR := CR.out.lt
        go_wp2_with fail
        refine (Quotient_c _ _ _ a b FXN.out FXD.out hb KA.out KB.out).mono ?_
        rw [QQ.out, QR.out]
        rintro e w1 ⟨v1, v2, rfl, hv1, hv2, hb1⟩
        obtain ⟨pq, cq, rfl, _, _⟩ := hv1.shape
        obtain ⟨pr, cr, rfl, _, _⟩ := hv2.shape
        have Fq := Lib.hid hv1
        have Fr := Lib.hid hv2
        clear hv1 hv2
        clear cX0 cX1 cX2 ltX cY0 cY1 cY2 ltY cR0 cR1 cR2 ltR
        replace CX := Lib.hid (CX.out.after hb1)
        replace CY := Lib.hid (CY.out.after hb1)
        replace CR := Lib.hid (CR.out.after hb1)
        replace FXN := Lib.hid (FXN.out.after hb1)
        replace FXD := Lib.hid (FXD.out.after hb1)
        replace FYN := Lib.hid (FYN.out.after hb1)
        replace FYD := Lib.hid (FYD.out.after hb1)
        replace HB := Lib.hid (HB.out.trans (hb1.mono HB.out.size))
        clear hb1
        obtain ⟨cX0, cX1, cX2⟩ := CX.out.cells3
        have ltX := CX.out.lt
        obtain ⟨cY0, cY1, cY2⟩ := CY.out.cells3
        have ltY := CY.out.lt
        obtain ⟨cR0, cR1, cR2⟩ := CR.out.cells3
        have ltR := CR.out.lt
        go_wp2_with fail
        refine (Sum_n _ _ _ q 1 (Fq.out.alloc _) (Sl_1 _) (Nat.le_trans LQ.out (by omega)) (Nat.le_trans M1.out (by omega))).mono ?_
        rintro e w11 ⟨v, rfl, hv, hb11⟩
        have hv : Sl _ v (limbs (q + 1)) := hv
        obtain ⟨ps, qs, rfl, _, _⟩ := hv.shape
        have Fs := Lib.hid hv
        clear hv
        clear cX0 cX1 cX2 ltX cY0 cY1 cY2 ltY cR0 cR1 cR2 ltR
        obtain ⟨hb11, CO⟩ := after_new hb11
        replace CO := Lib.hid CO
        replace CX := Lib.hid (CX.out.after hb11)
        replace CY := Lib.hid (CY.out.after hb11)
        replace CR := Lib.hid (CR.out.after hb11)
        replace FXN := Lib.hid (FXN.out.after hb11)
        replace FXD := Lib.hid (FXD.out.after hb11)
        replace FYN := Lib.hid (FYN.out.after hb11)
        replace FYD := Lib.hid (FYD.out.after hb11)
        replace Fq := Lib.hid (Fq.out.after hb11)
        replace Fr := Lib.hid (Fr.out.after hb11)
        replace HB := Lib.hid (HB.out.trans (hb11.mono HB.out.size))
        clear hb11
        clear CO
        obtain ⟨cX0, cX1, cX2⟩ := CX.out.cells3
        have ltX := CX.out.lt
        obtain ⟨cY0, cY1, cY2⟩ := CY.out.cells3
        have ltY := CY.out.lt
        obtain ⟨cR0, cR1, cR2⟩ := CR.out.cells3
        have ltR := CR.out.lt
        go_wp2_with fail
        refine (rwhole_c _ _ (q + 1) Fs.out).mono ?_
        rintro e w12 ⟨v, rfl, hv, hb12⟩
        have hv : IsF _ v (fr false (q + 1) 1) := hv
        obtain ⟨va, vb, rfl, h1, h2⟩ := hv
        obtain ⟨pA, mA, rfl, _, _⟩ := h1.shape
        obtain ⟨qA, nA, rfl, _, _⟩ := h2.shape
        have FA := Lib.hid (IsF.at_ h1 h2)
        clear h1 h2
        clear cX0 cX1 cX2 ltX cY0 cY1 cY2 ltY cR0 cR1 cR2 ltR
        replace CX := Lib.hid (CX.out.after hb12)
        replace CY := Lib.hid (CY.out.after hb12)
        replace CR := Lib.hid (CR.out.after hb12)
        replace FXN := Lib.hid (FXN.out.after hb12)
        replace FXD := Lib.hid (FXD.out.after hb12)
        replace FYN := Lib.hid (FYN.out.after hb12)
        replace FYD := Lib.hid (FYD.out.after hb12)
        replace Fq := Lib.hid (Fq.out.after hb12)
        replace Fr := Lib.hid (Fr.out.after hb12)
        replace Fs := Lib.hid (Fs.out.after hb12)
        replace HB := Lib.hid (HB.out.trans (hb12.mono HB.out.size))
        clear hb12
        have d_X_A : w.heap.size < w12.heap.size := CX.out.lt
        have d_Y_A : (w.heap.size + 1) < w12.heap.size := CY.out.lt
        have d_R_A : (w.heap.size + 2) < w12.heap.size := CR.out.lt
        have g_A : w.heap.size ≤ w12.heap.size := by have := HB.out.size; omega
        obtain ⟨cX0, cX1, cX2⟩ := CX.out.cells3
        have ltX := CX.out.lt
        obtain ⟨cY0, cY1, cY2⟩ := CY.out.cells3
        have ltY := CY.out.lt
        obtain ⟨cR0, cR1, cR2⟩ := CR.out.cells3
        have ltR := CR.out.lt
        go_wp2_with fail
        refine (rorder_c _ _ _ false false (q + 1) 1 c d (FA.out.alloc _) ⟨_, _, rfl, (FYN.out.alloc _), (FYD.out.alloc _)⟩ (Nat.le_trans LQ1.out (by omega)) (Nat.le_trans M1.out (by omega)) (Nat.le_trans LC.out (by omega)) (Nat.le_trans LD.out (by omega))).mono ?_
        rw [HO.out]
        rintro e w13 ⟨rfl, hb13⟩
        clear cX0 cX1 cX2 ltX cY0 cY1 cY2 ltY cR0 cR1 cR2 ltR
        obtain ⟨hb13, CA⟩ := after_new hb13
        replace CA := Lib.hid CA
        replace CX := Lib.hid (CX.out.after hb13)
        replace CY := Lib.hid (CY.out.after hb13)
        replace CR := Lib.hid (CR.out.after hb13)
        replace FXN := Lib.hid (FXN.out.after hb13)
        replace FXD := Lib.hid (FXD.out.after hb13)
        replace FYN := Lib.hid (FYN.out.after hb13)
        replace FYD := Lib.hid (FYD.out.after hb13)
        replace Fq := Lib.hid (Fq.out.after hb13)
        replace Fr := Lib.hid (Fr.out.after hb13)
        replace Fs := Lib.hid (Fs.out.after hb13)
        replace FA := Lib.hid (FA.out.after hb13)
        replace HB := Lib.hid (HB.out.trans (hb13.mono HB.out.size))
        clear hb13
        obtain ⟨cX0, cX1, cX2⟩ := CX.out.cells3
        have ltX := CX.out.lt
        obtain ⟨cY0, cY1, cY2⟩ := CY.out.cells3
        have ltY := CY.out.lt
        obtain ⟨cR0, cR1, cR2⟩ := CR.out.cells3
        have ltR := CR.out.lt
        obtain ⟨cA0, cA1, cA2⟩ := CA.out.cells3
        have ltA := CA.out.lt
        have zR0 := CR.out.frozen 0
        have zR1 := CR.out.frozen 1
        have zR2 := CR.out.frozen 2
        go_wp2_with fail
        refine bodyPost_ret (v := .agg #[.bool false, .slice pA (limbs (q + 1)).length mA, .slice qA (limbs (1)).length nA]) (by simp [results, Try.results81, go_sem, cR0, cR1, cR2, fr]) rfl ?_
        rw [HS.out]
        exact retF1_end (x := fr false (q + 1) (1)) HB.out CR.out (fun _ h => by cases h) (fun _ h => by cases h) (by omega) FA.out.parts.2.1 FA.out.parts.2.2
end Go.Proofs.Ytaojdlcailpheaa
