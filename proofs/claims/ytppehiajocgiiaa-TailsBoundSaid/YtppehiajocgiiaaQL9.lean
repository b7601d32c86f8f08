/- The walk of TailsBound: Critical and Upper are where the tail meets the bound. -/
import Derived.Test.YtppehiajocgiiaaQTq
import Derived.Test.YtppehiajocgiiaaK21
set_option linter.unusedVariables false
namespace Go.Proofs.Ytppehiajocgiiaa
open Go.RowKit

theorem ok11 : Ok false 1 1 := small_ok (by omega) (by omega) (by omega) (by decide)
theorem cmp_abv {T : F} {a b m i x y : Nat} (h : Rep T (tl a (b - a) m i : Nat) (b ^ m)) (hok : Ok false x y) (hab : a ≤ b) : ∃ s, Hid (cmpF T (fr false x y) = (s, 0)) ∧ (0 < s ↔ Abv m a (b - a) x y i) := by
  have hr := rep_cmp h (rep_of_ok hok)
  refine ⟨_, hr, ?_⟩
  have e1 : ((tl a (b - a) m i : Nat) : Int) * (y : Nat) = ((tl a (b - a) m i * y : Nat) : Int) := by push_cast; rfl
  have e2 : sg false x * ((b ^ m : Nat) : Int) = ((b ^ m * x : Nat) : Int) := by show (x : Int) * _ = _; push_cast; rw [Int.mul_comm]
  rw [e1, e2]
  unfold Abv
  rw [Nat.add_sub_cancel' hab]
  split
  · constructor
    · intro h; omega
    · intro h; omega
  · split
    · constructor
      · intro h; omega
      · intro h; omega
    · constructor
      · intro _; omega
      · intro _; omega
theorem cmp_yes {T : F} {a b m i x y : Nat} (h : Rep T (tl a (b - a) m i : Nat) (b ^ m)) (hok : Ok false x y) (ha : Abv m a (b - a) x y i) (hab : a ≤ b := by omega) : ∃ s, Hid (cmpF T (fr false x y) = (s, 0)) ∧ 0 < s := by
  obtain ⟨s, h1, h2⟩ := cmp_abv h hok hab
  exact ⟨s, h1, h2.2 ha⟩
theorem cmp_no {T : F} {a b m i x y : Nat} (h : Rep T (tl a (b - a) m i : Nat) (b ^ m)) (hok : Ok false x y) (ha : ¬ Abv m a (b - a) x y i) (hab : a ≤ b := by omega) : ∃ s, Hid (cmpF T (fr false x y) = (s, 0)) ∧ s ≤ 0 := by
  obtain ⟨s, h1, h2⟩ := cmp_abv h hok hab
  refine ⟨s, h1, ?_⟩
  rcases Int.lt_or_le 0 s with h3 | h3
  · exact absurd (h2.1 h3) ha
  · exact h3
theorem critR_use {n a c x y z : Nat} (h : CritR n a c x y z) : z ≤ n + 1 ∧ ¬ Abv n a c x y z ∧ (∀ k, z = k + 1 → Abv n a c x y k) := by
  rcases h with ⟨k, hk, hA, hn, rfl⟩ | ⟨hn, rfl⟩
  · refine ⟨by omega, fun hB => ?_, fun k' e => by have e2 : k = k' := (by omega); rw [← e2]; exact hA⟩
    exact hn (k + 1) (by omega) (abv_le hB) hB
  · exact ⟨by omega, hn 0 (by omega), fun k e => by omega⟩

set_option maxRecDepth 100000 in
set_option maxHeartbeats 16000000 in
theorem bound_walk (w : World) (n k a b c d de : Nat) (hn : n < 256) (hk : k < 256) (ha : a < 256) (hb : b < 256) (hc : c < 256) (hd : d < 256) (hde : de < 256) : Calls Try.prog 8 #[.int .u8 (n : Int), .int .u8 (k : Int), .int .u8 (a : Int), .int .u8 (b : Int), .int .u8 (c : Int), .int .u8 (d : Int), .int .u8 (de : Int)] w fun e w' => e = .returned (.bool true) ∧ Below w.heap.size w w' := by
  obtain ⟨α, β, hp, hok, hab, hb1000, _, _⟩ := of_small (j := a % (b % 30 + 2)) (den := b % 30 + 1) (by have := Nat.mod_lt a (show 0 < b % 30 + 2 by omega); omega) (by omega) (by omega)
  have HP : Hid ((ofF ((a % (b % 30 + 2) : Nat) : Int) ((b % 30 + 1 : Nat) : Int)).1 = fr false α β) := congrArg Prod.fst hp
  obtain ⟨γ, δ, hq, hok', hab', hb1000', _, _⟩ := of_small (j := c % (d % 30 + 2)) (den := d % 30 + 1) (by have := Nat.mod_lt c (show 0 < d % 30 + 2 by omega); omega) (by omega) (by omega)
  have HQ : Hid ((ofF ((c % (d % 30 + 2) : Nat) : Int) ((d % 30 + 1 : Nat) : Int)).1 = fr false γ δ) := congrArg Prod.fst hq
  obtain ⟨m, hmn⟩ : ∃ m, n % 11 = m := ⟨_, rfl⟩
  have hm10 : m ≤ 10 := by omega
  have hm : (n : Int) % 11 = (m : Int) := by omega
  obtain ⟨i, hin⟩ : ∃ i, k % (m + 2) = i := ⟨_, rfl⟩
  have him : i ≤ m + 1 := by have := Nat.mod_lt k (show 0 < m + 2 by omega); omega
  have hi : (k : Int) % ((m : Int) + 2) = (i : Int) := by rw [← hin]; push_cast; rfl
  obtain ⟨den, hdn⟩ : ∃ den, 1 + de % 20 = den := ⟨_, rfl⟩
  have hd1 : 1 ≤ den := by omega
  have hd20 : den ≤ 20 := by omega
  have hden : 1 + (de : Int) % 20 = (den : Int) := by rw [← hdn]; push_cast; rfl
  clear hp hq hmn hin hdn
  have HB : Hid (Below w.heap.size w w) := Below.refl _ _
  go_enter Try.func8, Try.ntmps8
  go_wp2_with fail
  refine (lrate_c _ a b ha hb).mono ?_
  rw [HP.out]
  rintro e w1 ⟨v, rfl, hv, hb1⟩
  have hv : IsF _ v (fr false α β) := hv
  obtain ⟨va, vb, rfl, h1, h2⟩ := hv
  obtain ⟨pP, mP, rfl, _, _⟩ := h1.shape
  obtain ⟨qP, nP, rfl, _, _⟩ := h2.shape
  have FP := Lib.hid (IsF.at_ h1 h2)
  clear h1 h2
  replace HB := Lib.hid (HB.out.trans (hb1.mono HB.out.size))
  clear hb1
  go_wp2_with fail
  refine (lrate_c _ c d hc hd).mono ?_
  rw [HQ.out]
  rintro e w2 ⟨v, rfl, hv, hb2⟩
  have hv : IsF _ v (fr false γ δ) := hv
  obtain ⟨va, vb, rfl, h1, h2⟩ := hv
  obtain ⟨pC, mC, rfl, _, _⟩ := h1.shape
  obtain ⟨qC, nC, rfl, _, _⟩ := h2.shape
  have FC := Lib.hid (IsF.at_ h1 h2)
  clear h1 h2
  replace FP := Lib.hid (FP.out.after hb2)
  replace HB := Lib.hid (HB.out.trans (hb2.mono HB.out.size))
  clear hb2
  have g_P : w.heap.size ≤ w2.heap.size := by have := HB.out.size; omega
  have d_P_C : w2.heap.size < w2.heap.size + 1 := by omega
  have g_C : w.heap.size ≤ w2.heap.size + 1 := by have := HB.out.size; omega
  go_wp2_with fail
  refine (tCritical_c _ m _ _ (fr false α β) (fr false γ δ) ((FP.out.alloc _).alloc _) ((FC.out.alloc _).alloc _)).mono ?_
  rintro e w3 ⟨rr, rfl, hrr, hb3⟩
  obtain ⟨hb3, CP, CC⟩ := after_new2 hb3
  replace CP := Lib.hid CP
  replace CC := Lib.hid CC
  replace FP := Lib.hid (FP.out.after hb3)
  replace FC := Lib.hid (FC.out.after hb3)
  replace HB := Lib.hid (HB.out.trans (hb3.mono HB.out.size))
  clear hb3
  obtain ⟨z, rfl, hcr⟩ := critF_val hok hab hb1000 (by omega) hok' hab' hrr
  obtain ⟨hz1, hz2, hz3⟩ := critR_use hcr
  clear hrr hcr
  rcases z with _ | z
  · rw [show ((0 : Nat) : Int) = 0 from rfl]
    have hr0 := tailF_q (k := 0) hok hab hb1000 (show m ≤ 64 by omega) (by omega)
    have HT0 : Hid (tailF (m : Int) 0 (fr false α β) = (Tq α β m 0, 0)) := hr0.1
    have rT0 := hr0.2
    obtain ⟨s0, Hs0, hs0⟩ := cmp_no rT0 hok' hz2
    clear hz1 hz2 hz3 hr0 rT0
    obtain ⟨cP0, cP1, cP2⟩ := CP.out.cells3
    have ltP := CP.out.lt
    obtain ⟨cC0, cC1, cC2⟩ := CC.out.cells3
    have ltC := CC.out.lt
    go_wp2_with fail
    refine (tTail_c _ m 0 _ _ FP.out).mono ?_
    rw [HT0.out]
    rintro e w4 ⟨v, rfl, hv, hb4⟩
    have hv : IsF _ v (Tq α β m 0) := hv
    obtain ⟨va, vb, rfl, h1, h2⟩ := hv
    obtain ⟨pX, mX, rfl, _, _⟩ := h1.shape
    obtain ⟨qX, nX, rfl, _, _⟩ := h2.shape
    have FX := Lib.hid (IsF.at_ h1 h2)
    clear h1 h2
    clear cP0 cP1 cP2 ltP cC0 cC1 cC2 ltC
    replace CP := Lib.hid (CP.out.after hb4)
    replace CC := Lib.hid (CC.out.after hb4)
    replace FP := Lib.hid (FP.out.after hb4)
    replace FC := Lib.hid (FC.out.after hb4)
    replace HB := Lib.hid (HB.out.trans (hb4.mono HB.out.size))
    clear hb4
    have d_P_X : w2.heap.size < w4.heap.size := CP.out.lt
    have d_C_X : w2.heap.size + 1 < w4.heap.size := CC.out.lt
    have g_X : w.heap.size ≤ w4.heap.size := by have := HB.out.size; omega
    obtain ⟨cP0, cP1, cP2⟩ := CP.out.cells3
    have ltP := CP.out.lt
    obtain ⟨cC0, cC1, cC2⟩ := CC.out.cells3
    have ltC := CC.out.lt
    go_wp2_with fail
    refine (Cmp_c _ _ _ _ _ (FX.out.alloc _) (FC.out.alloc _)).mono ?_
    rw [Hs0.out]
    rintro e w5 ⟨rfl, hb5⟩
    clear cP0 cP1 cP2 ltP cC0 cC1 cC2 ltC
    obtain ⟨hb5, CX⟩ := after_new hb5
    replace CX := Lib.hid CX
    replace CP := Lib.hid (CP.out.after hb5)
    replace CC := Lib.hid (CC.out.after hb5)
    replace FP := Lib.hid (FP.out.after hb5)
    replace FC := Lib.hid (FC.out.after hb5)
    replace FX := Lib.hid (FX.out.after hb5)
    replace HB := Lib.hid (HB.out.trans (hb5.mono HB.out.size))
    clear hb5
    obtain ⟨cP0, cP1, cP2⟩ := CP.out.cells3
    have ltP := CP.out.lt
    obtain ⟨cC0, cC1, cC2⟩ := CC.out.cells3
    have ltC := CC.out.lt
    obtain ⟨cX0, cX1, cX2⟩ := CX.out.cells3
    have ltX := CX.out.lt
    go_wp2_with fail
    refine (tUpper_c _ m i den _ _ FC.out).mono ?_
    rintro e w6 ⟨ru, rfl, hru, hb6⟩
    clear cP0 cP1 cP2 ltP cC0 cC1 cC2 ltC cX0 cX1 cX2 ltX
    replace CP := Lib.hid (CP.out.after hb6)
    replace CC := Lib.hid (CC.out.after hb6)
    replace CX := Lib.hid (CX.out.after hb6)
    replace FP := Lib.hid (FP.out.after hb6)
    replace FC := Lib.hid (FC.out.after hb6)
    replace FX := Lib.hid (FX.out.after hb6)
    replace HB := Lib.hid (HB.out.trans (hb6.mono HB.out.size))
    clear hb6
    obtain ⟨M, hM, rfl⟩ := upperF_val (by omega) him hok' hab' hd1 (by omega) hru
    clear hru
    obtain ⟨hM1, hM2, hM3⟩ := hM
    rcases Nat.lt_or_ge den M with hlt | hge
    · obtain rfl : M = den + 1 := by omega
      rw [if_pos (by omega)]
      have hno := hM2.resolve_left (by omega)
      have hno' : ¬ Abv m 1 (1 - 1) γ δ i := fun h => hno ((upB_red (g := den) (a := 1) (b := 1) (by omega) (by omega) (by omega) (by omega)).2 h)
      have hr1 := tailF_q (k := i) ok11 (Nat.le_refl 1) (by omega) (show m ≤ 64 by omega) him
      have HT1 : Hid (tailF (m : Int) (i : Int) (fr false 1 1) = (Tq 1 1 m i, 0)) := hr1.1
      have rT1 := hr1.2
      obtain ⟨s1, Hs1, hs1⟩ := cmp_no rT1 hok' hno'
      clear hM1 hM2 hM3 hno hno' hr1 rT1
      obtain ⟨cP0, cP1, cP2⟩ := CP.out.cells3
      have ltP := CP.out.lt
      obtain ⟨cC0, cC1, cC2⟩ := CC.out.cells3
      have ltC := CC.out.lt
      obtain ⟨cX0, cX1, cX2⟩ := CX.out.cells3
      have ltX := CX.out.lt
      go_wp2_with fail
      refine (lone_c _).mono ?_
      rw [w_11]
      rintro e w7 ⟨v, rfl, hv, hb7⟩
      have hv : IsF _ v (fr false 1 1) := hv
      obtain ⟨va, vb, rfl, h1, h2⟩ := hv
      obtain ⟨pO, mO, rfl, _, _⟩ := h1.shape
      obtain ⟨qO, nO, rfl, _, _⟩ := h2.shape
      have FO := Lib.hid (IsF.at_ h1 h2)
      clear h1 h2
      clear cP0 cP1 cP2 ltP cC0 cC1 cC2 ltC cX0 cX1 cX2 ltX
      replace CP := Lib.hid (CP.out.after hb7)
      replace CC := Lib.hid (CC.out.after hb7)
      replace CX := Lib.hid (CX.out.after hb7)
      replace FP := Lib.hid (FP.out.after hb7)
      replace FC := Lib.hid (FC.out.after hb7)
      replace FX := Lib.hid (FX.out.after hb7)
      replace HB := Lib.hid (HB.out.trans (hb7.mono HB.out.size))
      clear hb7
      obtain ⟨cP0, cP1, cP2⟩ := CP.out.cells3
      have ltP := CP.out.lt
      obtain ⟨cC0, cC1, cC2⟩ := CC.out.cells3
      have ltC := CC.out.lt
      obtain ⟨cX0, cX1, cX2⟩ := CX.out.cells3
      have ltX := CX.out.lt
      go_wp2_with fail
      refine (tTail_c _ m i _ _ FO.out).mono ?_
      rw [HT1.out]
      rintro e w8 ⟨v, rfl, hv, hb8⟩
      have hv : IsF _ v (Tq 1 1 m i) := hv
      obtain ⟨va, vb, rfl, h1, h2⟩ := hv
      obtain ⟨px1, mx1, rfl, _, _⟩ := h1.shape
      obtain ⟨qx1, nx1, rfl, _, _⟩ := h2.shape
      have Fx1 := Lib.hid (IsF.at_ h1 h2)
      clear h1 h2
      clear cP0 cP1 cP2 ltP cC0 cC1 cC2 ltC cX0 cX1 cX2 ltX
      replace CP := Lib.hid (CP.out.after hb8)
      replace CC := Lib.hid (CC.out.after hb8)
      replace CX := Lib.hid (CX.out.after hb8)
      replace FP := Lib.hid (FP.out.after hb8)
      replace FC := Lib.hid (FC.out.after hb8)
      replace FX := Lib.hid (FX.out.after hb8)
      replace FO := Lib.hid (FO.out.after hb8)
      replace HB := Lib.hid (HB.out.trans (hb8.mono HB.out.size))
      clear hb8
      obtain ⟨cP0, cP1, cP2⟩ := CP.out.cells3
      have ltP := CP.out.lt
      obtain ⟨cC0, cC1, cC2⟩ := CC.out.cells3
      have ltC := CC.out.lt
      obtain ⟨cX0, cX1, cX2⟩ := CX.out.cells3
      have ltX := CX.out.lt
      have zX0 := CX.out.frozen 0
      have zX1 := CX.out.frozen 1
      have zX2 := CX.out.frozen 2
      go_wp2_with fail
      refine (Cmp_c _ _ _ _ _ (Fx1.out.set3 CX.out (fun _ h => by cases h) (fun _ h => by cases h) (fun _ h => by cases h) _ _ _) (FC.out.set3 CX.out (fun _ h => by cases h) (fun _ h => by cases h) (fun _ h => by cases h) _ _ _)).mono ?_
      rw [Hs1.out]
      rintro e w9 ⟨rfl, hb9⟩
      clear cP0 cP1 cP2 ltP cC0 cC1 cC2 ltC cX0 cX1 cX2 ltX zX0 zX1 zX2
      obtain ⟨KB, KS, KW, NC⟩ := after_set CX.out (fun _ h => by cases h) (fun _ h => by cases h) (fun _ h => by cases h) hb9
      replace CP := Lib.hid (KB _ _ _ (by omega) CP.out)
      replace CC := Lib.hid (KB _ _ _ (by omega) CC.out)
      replace CX := Lib.hid NC
      replace FP := Lib.hid (FP.out.via KS)
      replace FC := Lib.hid (FC.out.via KS)
      replace FX := Lib.hid (FX.out.via KS)
      replace FO := Lib.hid (FO.out.via KS)
      replace Fx1 := Lib.hid (Fx1.out.via KS)
      replace HB := Lib.hid (KW _ _ HB.out (by omega))
      clear KB KS KW NC hb9
      obtain ⟨cP0, cP1, cP2⟩ := CP.out.cells3
      have ltP := CP.out.lt
      obtain ⟨cC0, cC1, cC2⟩ := CC.out.cells3
      have ltC := CC.out.lt
      obtain ⟨cX0, cX1, cX2⟩ := CX.out.cells3
      have ltX := CX.out.lt
      go_wp2_with fail
      refine (works_c _).mono ?_
      rintro e w10 ⟨rfl, hb10⟩
      clear cP0 cP1 cP2 ltP cC0 cC1 cC2 ltC cX0 cX1 cX2 ltX
      replace CP := Lib.hid (CP.out.after hb10)
      replace CC := Lib.hid (CC.out.after hb10)
      replace CX := Lib.hid (CX.out.after hb10)
      replace FP := Lib.hid (FP.out.after hb10)
      replace FC := Lib.hid (FC.out.after hb10)
      replace FX := Lib.hid (FX.out.after hb10)
      replace FO := Lib.hid (FO.out.after hb10)
      replace Fx1 := Lib.hid (Fx1.out.after hb10)
      replace HB := Lib.hid (HB.out.trans (hb10.mono HB.out.size))
      clear hb10
      go_wp2_with fail
      go_ret
      exact ⟨rfl, HB.out⟩
    · have hyes := hM3.resolve_left (by omega)
      rw [if_neg (by omega)]
      obtain ⟨a1, b1, ho1, hok1, hab1, hb11, _, g1, hg1, e1, e2⟩ := of_small (j := M) (den := den) hge (by omega) (by omega)
      have HO1 : Hid ((ofF (M : Int) (den : Int)).1 = fr false a1 b1) := congrArg Prod.fst ho1
      have hyes' := (upB_red hg1 e1 e2 hab1).1 hyes
      have hr1 := tailF_q (k := i) hok1 hab1 hb11 (show m ≤ 64 by omega) him
      have HT1 : Hid (tailF (m : Int) (i : Int) (fr false a1 b1) = (Tq a1 b1 m i, 0)) := hr1.1
      have rT1 := hr1.2
      obtain ⟨s1, Hs1, hs1⟩ := cmp_yes rT1 hok' hyes'
      clear hyes hyes' hr1 rT1 ho1 e1 e2 hM3
      rcases M with _ | M
      · rw [show ((0 : Nat) : Int) = 0 from rfl]
        have HO1b : Hid ((ofF 0 (den : Int)).1 = fr false a1 b1) := HO1.out
        clear hM1 hM2 HO1
        obtain ⟨cP0, cP1, cP2⟩ := CP.out.cells3
        have ltP := CP.out.lt
        obtain ⟨cC0, cC1, cC2⟩ := CC.out.cells3
        have ltC := CC.out.lt
        obtain ⟨cX0, cX1, cX2⟩ := CX.out.cells3
        have ltX := CX.out.lt
        go_wp2_with fail
        refine (of_c _ 0 den (by omega) (by omega) (by omega) (by omega)).mono ?_
        rw [HO1b.out]
        rintro e w7 ⟨v, rfl, hv, hb7⟩
        have hv : IsF _ v (fr false a1 b1) := hv
        obtain ⟨va, vb, rfl, h1, h2⟩ := hv
        obtain ⟨pO, mO, rfl, _, _⟩ := h1.shape
        obtain ⟨qO, nO, rfl, _, _⟩ := h2.shape
        have FO := Lib.hid (IsF.at_ h1 h2)
        clear h1 h2
        clear cP0 cP1 cP2 ltP cC0 cC1 cC2 ltC cX0 cX1 cX2 ltX
        replace CP := Lib.hid (CP.out.after hb7)
        replace CC := Lib.hid (CC.out.after hb7)
        replace CX := Lib.hid (CX.out.after hb7)
        replace FP := Lib.hid (FP.out.after hb7)
        replace FC := Lib.hid (FC.out.after hb7)
        replace FX := Lib.hid (FX.out.after hb7)
        replace HB := Lib.hid (HB.out.trans (hb7.mono HB.out.size))
        clear hb7
        obtain ⟨cP0, cP1, cP2⟩ := CP.out.cells3
        have ltP := CP.out.lt
        obtain ⟨cC0, cC1, cC2⟩ := CC.out.cells3
        have ltC := CC.out.lt
        obtain ⟨cX0, cX1, cX2⟩ := CX.out.cells3
        have ltX := CX.out.lt
        go_wp2_with fail
        refine (tTail_c _ m i _ _ FO.out).mono ?_
        rw [HT1.out]
        rintro e w8 ⟨v, rfl, hv, hb8⟩
        have hv : IsF _ v (Tq a1 b1 m i) := hv
        obtain ⟨va, vb, rfl, h1, h2⟩ := hv
        obtain ⟨px1, mx1, rfl, _, _⟩ := h1.shape
        obtain ⟨qx1, nx1, rfl, _, _⟩ := h2.shape
        have Fx1 := Lib.hid (IsF.at_ h1 h2)
        clear h1 h2
        clear cP0 cP1 cP2 ltP cC0 cC1 cC2 ltC cX0 cX1 cX2 ltX
        replace CP := Lib.hid (CP.out.after hb8)
        replace CC := Lib.hid (CC.out.after hb8)
        replace CX := Lib.hid (CX.out.after hb8)
        replace FP := Lib.hid (FP.out.after hb8)
        replace FC := Lib.hid (FC.out.after hb8)
        replace FX := Lib.hid (FX.out.after hb8)
        replace FO := Lib.hid (FO.out.after hb8)
        replace HB := Lib.hid (HB.out.trans (hb8.mono HB.out.size))
        clear hb8
        obtain ⟨cP0, cP1, cP2⟩ := CP.out.cells3
        have ltP := CP.out.lt
        obtain ⟨cC0, cC1, cC2⟩ := CC.out.cells3
        have ltC := CC.out.lt
        obtain ⟨cX0, cX1, cX2⟩ := CX.out.cells3
        have ltX := CX.out.lt
        have zX0 := CX.out.frozen 0
        have zX1 := CX.out.frozen 1
        have zX2 := CX.out.frozen 2
        go_wp2_with fail
        refine (Cmp_c _ _ _ _ _ (Fx1.out.set3 CX.out (fun _ h => by cases h) (fun _ h => by cases h) (fun _ h => by cases h) _ _ _) (FC.out.set3 CX.out (fun _ h => by cases h) (fun _ h => by cases h) (fun _ h => by cases h) _ _ _)).mono ?_
        rw [Hs1.out]
        rintro e w9 ⟨rfl, hb9⟩
        clear cP0 cP1 cP2 ltP cC0 cC1 cC2 ltC cX0 cX1 cX2 ltX zX0 zX1 zX2
        obtain ⟨KB, KS, KW, NC⟩ := after_set CX.out (fun _ h => by cases h) (fun _ h => by cases h) (fun _ h => by cases h) hb9
        replace CP := Lib.hid (KB _ _ _ (by omega) CP.out)
        replace CC := Lib.hid (KB _ _ _ (by omega) CC.out)
        replace CX := Lib.hid NC
        replace FP := Lib.hid (FP.out.via KS)
        replace FC := Lib.hid (FC.out.via KS)
        replace FX := Lib.hid (FX.out.via KS)
        replace FO := Lib.hid (FO.out.via KS)
        replace Fx1 := Lib.hid (Fx1.out.via KS)
        replace HB := Lib.hid (KW _ _ HB.out (by omega))
        clear KB KS KW NC hb9
        obtain ⟨cP0, cP1, cP2⟩ := CP.out.cells3
        have ltP := CP.out.lt
        obtain ⟨cC0, cC1, cC2⟩ := CC.out.cells3
        have ltC := CC.out.lt
        obtain ⟨cX0, cX1, cX2⟩ := CX.out.cells3
        have ltX := CX.out.lt
        go_wp2_with fail
        refine (works_c _).mono ?_
        rintro e w10 ⟨rfl, hb10⟩
        clear cP0 cP1 cP2 ltP cC0 cC1 cC2 ltC cX0 cX1 cX2 ltX
        replace CP := Lib.hid (CP.out.after hb10)
        replace CC := Lib.hid (CC.out.after hb10)
        replace CX := Lib.hid (CX.out.after hb10)
        replace FP := Lib.hid (FP.out.after hb10)
        replace FC := Lib.hid (FC.out.after hb10)
        replace FX := Lib.hid (FX.out.after hb10)
        replace FO := Lib.hid (FO.out.after hb10)
        replace Fx1 := Lib.hid (Fx1.out.after hb10)
        replace HB := Lib.hid (HB.out.trans (hb10.mono HB.out.size))
        clear hb10
        go_wp2_with fail
        go_ret
        exact ⟨rfl, HB.out⟩
      · rw [show ((M + 1 : Nat) : Int) = (M : Int) + 1 from by omega]
        have hM0 : (0 : Int) ≤ (M : Int) := Int.natCast_nonneg _
        have hMd : (M : Int) + 1 ≤ (den : Int) := by omega
        have HO1b : Hid ((ofF ((M : Int) + 1) (den : Int)).1 = fr false a1 b1) := HO1.out
        have hno := hM2.resolve_left (by omega)
        obtain ⟨a2, b2, ho2, hok2, hab2, hb12, _, g2, hg2, e1, e2⟩ := of_small (j := M) (den := den) (by omega) (by omega) (by omega)
        have HO2 : Hid ((ofF (M : Int) (den : Int)).1 = fr false a2 b2) := congrArg Prod.fst ho2
        have hno' : ¬ Abv m a2 (b2 - a2) γ δ i := fun h => hno ((upB_red hg2 e1 e2 hab2).2 h)
        have hr2 := tailF_q (k := i) hok2 hab2 hb12 (show m ≤ 64 by omega) him
        have HT2 : Hid (tailF (m : Int) (i : Int) (fr false a2 b2) = (Tq a2 b2 m i, 0)) := hr2.1
        have rT2 := hr2.2
        obtain ⟨s2, Hs2, hs2⟩ := cmp_no rT2 hok' hno'
        clear hno hno' hr2 rT2 ho2 e1 e2
        clear hM1 hM2 HO1
        obtain ⟨cP0, cP1, cP2⟩ := CP.out.cells3
        have ltP := CP.out.lt
        obtain ⟨cC0, cC1, cC2⟩ := CC.out.cells3
        have ltC := CC.out.lt
        obtain ⟨cX0, cX1, cX2⟩ := CX.out.cells3
        have ltX := CX.out.lt
        go_wp2_with fail
        refine (of_c _ ((M : Int) + 1) den (by omega) (by omega) (by omega) (by omega)).mono ?_
        rw [HO1b.out]
        rintro e w7 ⟨v, rfl, hv, hb7⟩
        have hv : IsF _ v (fr false a1 b1) := hv
        obtain ⟨va, vb, rfl, h1, h2⟩ := hv
        obtain ⟨pO, mO, rfl, _, _⟩ := h1.shape
        obtain ⟨qO, nO, rfl, _, _⟩ := h2.shape
        have FO := Lib.hid (IsF.at_ h1 h2)
        clear h1 h2
        clear cP0 cP1 cP2 ltP cC0 cC1 cC2 ltC cX0 cX1 cX2 ltX
        replace CP := Lib.hid (CP.out.after hb7)
        replace CC := Lib.hid (CC.out.after hb7)
        replace CX := Lib.hid (CX.out.after hb7)
        replace FP := Lib.hid (FP.out.after hb7)
        replace FC := Lib.hid (FC.out.after hb7)
        replace FX := Lib.hid (FX.out.after hb7)
        replace HB := Lib.hid (HB.out.trans (hb7.mono HB.out.size))
        clear hb7
        obtain ⟨cP0, cP1, cP2⟩ := CP.out.cells3
        have ltP := CP.out.lt
        obtain ⟨cC0, cC1, cC2⟩ := CC.out.cells3
        have ltC := CC.out.lt
        obtain ⟨cX0, cX1, cX2⟩ := CX.out.cells3
        have ltX := CX.out.lt
        go_wp2_with fail
        refine (tTail_c _ m i _ _ FO.out).mono ?_
        rw [HT1.out]
        rintro e w8 ⟨v, rfl, hv, hb8⟩
        have hv : IsF _ v (Tq a1 b1 m i) := hv
        obtain ⟨va, vb, rfl, h1, h2⟩ := hv
        obtain ⟨px1, mx1, rfl, _, _⟩ := h1.shape
        obtain ⟨qx1, nx1, rfl, _, _⟩ := h2.shape
        have Fx1 := Lib.hid (IsF.at_ h1 h2)
        clear h1 h2
        clear cP0 cP1 cP2 ltP cC0 cC1 cC2 ltC cX0 cX1 cX2 ltX
        replace CP := Lib.hid (CP.out.after hb8)
        replace CC := Lib.hid (CC.out.after hb8)
        replace CX := Lib.hid (CX.out.after hb8)
        replace FP := Lib.hid (FP.out.after hb8)
        replace FC := Lib.hid (FC.out.after hb8)
        replace FX := Lib.hid (FX.out.after hb8)
        replace FO := Lib.hid (FO.out.after hb8)
        replace HB := Lib.hid (HB.out.trans (hb8.mono HB.out.size))
        clear hb8
        obtain ⟨cP0, cP1, cP2⟩ := CP.out.cells3
        have ltP := CP.out.lt
        obtain ⟨cC0, cC1, cC2⟩ := CC.out.cells3
        have ltC := CC.out.lt
        obtain ⟨cX0, cX1, cX2⟩ := CX.out.cells3
        have ltX := CX.out.lt
        have zX0 := CX.out.frozen 0
        have zX1 := CX.out.frozen 1
        have zX2 := CX.out.frozen 2
        go_wp2_with fail
        refine (Cmp_c _ _ _ _ _ (Fx1.out.set3 CX.out (fun _ h => by cases h) (fun _ h => by cases h) (fun _ h => by cases h) _ _ _) (FC.out.set3 CX.out (fun _ h => by cases h) (fun _ h => by cases h) (fun _ h => by cases h) _ _ _)).mono ?_
        rw [Hs1.out]
        rintro e w9 ⟨rfl, hb9⟩
        clear cP0 cP1 cP2 ltP cC0 cC1 cC2 ltC cX0 cX1 cX2 ltX zX0 zX1 zX2
        obtain ⟨KB, KS, KW, NC⟩ := after_set CX.out (fun _ h => by cases h) (fun _ h => by cases h) (fun _ h => by cases h) hb9
        replace CP := Lib.hid (KB _ _ _ (by omega) CP.out)
        replace CC := Lib.hid (KB _ _ _ (by omega) CC.out)
        replace CX := Lib.hid NC
        replace FP := Lib.hid (FP.out.via KS)
        replace FC := Lib.hid (FC.out.via KS)
        replace FX := Lib.hid (FX.out.via KS)
        replace FO := Lib.hid (FO.out.via KS)
        replace Fx1 := Lib.hid (Fx1.out.via KS)
        replace HB := Lib.hid (KW _ _ HB.out (by omega))
        clear KB KS KW NC hb9
        obtain ⟨cP0, cP1, cP2⟩ := CP.out.cells3
        have ltP := CP.out.lt
        obtain ⟨cC0, cC1, cC2⟩ := CC.out.cells3
        have ltC := CC.out.lt
        obtain ⟨cX0, cX1, cX2⟩ := CX.out.cells3
        have ltX := CX.out.lt
        go_wp2_with fail
        refine (of_c _ M den (by omega) (by omega) (by omega) (by omega)).mono ?_
        rw [HO2.out]
        rintro e w10 ⟨v, rfl, hv, hb10⟩
        have hv : IsF _ v (fr false a2 b2) := hv
        obtain ⟨va, vb, rfl, h1, h2⟩ := hv
        obtain ⟨pO2, mO2, rfl, _, _⟩ := h1.shape
        obtain ⟨qO2, nO2, rfl, _, _⟩ := h2.shape
        have FO2 := Lib.hid (IsF.at_ h1 h2)
        clear h1 h2
        clear cP0 cP1 cP2 ltP cC0 cC1 cC2 ltC cX0 cX1 cX2 ltX
        replace CP := Lib.hid (CP.out.after hb10)
        replace CC := Lib.hid (CC.out.after hb10)
        replace CX := Lib.hid (CX.out.after hb10)
        replace FP := Lib.hid (FP.out.after hb10)
        replace FC := Lib.hid (FC.out.after hb10)
        replace FX := Lib.hid (FX.out.after hb10)
        replace FO := Lib.hid (FO.out.after hb10)
        replace Fx1 := Lib.hid (Fx1.out.after hb10)
        replace HB := Lib.hid (HB.out.trans (hb10.mono HB.out.size))
        clear hb10
        obtain ⟨cP0, cP1, cP2⟩ := CP.out.cells3
        have ltP := CP.out.lt
        obtain ⟨cC0, cC1, cC2⟩ := CC.out.cells3
        have ltC := CC.out.lt
        obtain ⟨cX0, cX1, cX2⟩ := CX.out.cells3
        have ltX := CX.out.lt
        go_wp2_with fail
        refine (tTail_c _ m i _ _ FO2.out).mono ?_
        rw [HT2.out]
        rintro e w11 ⟨v, rfl, hv, hb11⟩
        have hv : IsF _ v (Tq a2 b2 m i) := hv
        obtain ⟨va, vb, rfl, h1, h2⟩ := hv
        obtain ⟨px2, mx2, rfl, _, _⟩ := h1.shape
        obtain ⟨qx2, nx2, rfl, _, _⟩ := h2.shape
        have Fx2 := Lib.hid (IsF.at_ h1 h2)
        clear h1 h2
        clear cP0 cP1 cP2 ltP cC0 cC1 cC2 ltC cX0 cX1 cX2 ltX
        replace CP := Lib.hid (CP.out.after hb11)
        replace CC := Lib.hid (CC.out.after hb11)
        replace CX := Lib.hid (CX.out.after hb11)
        replace FP := Lib.hid (FP.out.after hb11)
        replace FC := Lib.hid (FC.out.after hb11)
        replace FX := Lib.hid (FX.out.after hb11)
        replace FO := Lib.hid (FO.out.after hb11)
        replace Fx1 := Lib.hid (Fx1.out.after hb11)
        replace FO2 := Lib.hid (FO2.out.after hb11)
        replace HB := Lib.hid (HB.out.trans (hb11.mono HB.out.size))
        clear hb11
        obtain ⟨cP0, cP1, cP2⟩ := CP.out.cells3
        have ltP := CP.out.lt
        obtain ⟨cC0, cC1, cC2⟩ := CC.out.cells3
        have ltC := CC.out.lt
        obtain ⟨cX0, cX1, cX2⟩ := CX.out.cells3
        have ltX := CX.out.lt
        have zX0 := CX.out.frozen 0
        have zX1 := CX.out.frozen 1
        have zX2 := CX.out.frozen 2
        go_wp2_with fail
        refine (Cmp_c _ _ _ _ _ (Fx2.out.set3 CX.out (fun _ h => by cases h) (fun _ h => by cases h) (fun _ h => by cases h) _ _ _) (FC.out.set3 CX.out (fun _ h => by cases h) (fun _ h => by cases h) (fun _ h => by cases h) _ _ _)).mono ?_
        rw [Hs2.out]
        rintro e w12 ⟨rfl, hb12⟩
        clear cP0 cP1 cP2 ltP cC0 cC1 cC2 ltC cX0 cX1 cX2 ltX zX0 zX1 zX2
        obtain ⟨KB, KS, KW, NC⟩ := after_set CX.out (fun _ h => by cases h) (fun _ h => by cases h) (fun _ h => by cases h) hb12
        replace CP := Lib.hid (KB _ _ _ (by omega) CP.out)
        replace CC := Lib.hid (KB _ _ _ (by omega) CC.out)
        replace CX := Lib.hid NC
        replace FP := Lib.hid (FP.out.via KS)
        replace FC := Lib.hid (FC.out.via KS)
        replace FX := Lib.hid (FX.out.via KS)
        replace FO := Lib.hid (FO.out.via KS)
        replace Fx1 := Lib.hid (Fx1.out.via KS)
        replace FO2 := Lib.hid (FO2.out.via KS)
        replace Fx2 := Lib.hid (Fx2.out.via KS)
        replace HB := Lib.hid (KW _ _ HB.out (by omega))
        clear KB KS KW NC hb12
        obtain ⟨cP0, cP1, cP2⟩ := CP.out.cells3
        have ltP := CP.out.lt
        obtain ⟨cC0, cC1, cC2⟩ := CC.out.cells3
        have ltC := CC.out.lt
        obtain ⟨cX0, cX1, cX2⟩ := CX.out.cells3
        have ltX := CX.out.lt
        go_wp2_with fail
        refine (works_c _).mono ?_
        rintro e w13 ⟨rfl, hb13⟩
        clear cP0 cP1 cP2 ltP cC0 cC1 cC2 ltC cX0 cX1 cX2 ltX
        replace CP := Lib.hid (CP.out.after hb13)
        replace CC := Lib.hid (CC.out.after hb13)
        replace CX := Lib.hid (CX.out.after hb13)
        replace FP := Lib.hid (FP.out.after hb13)
        replace FC := Lib.hid (FC.out.after hb13)
        replace FX := Lib.hid (FX.out.after hb13)
        replace FO := Lib.hid (FO.out.after hb13)
        replace Fx1 := Lib.hid (Fx1.out.after hb13)
        replace FO2 := Lib.hid (FO2.out.after hb13)
        replace Fx2 := Lib.hid (Fx2.out.after hb13)
        replace HB := Lib.hid (HB.out.trans (hb13.mono HB.out.size))
        clear hb13
        go_wp2_with fail
        go_ret
        exact ⟨rfl, HB.out⟩
  · rw [show ((z + 1 : Nat) : Int) = (z : Int) + 1 from by omega]
    have hz0 : (0 : Int) ≤ (z : Int) := Int.natCast_nonneg _
    have hzm : (z : Int) + 1 ≤ (m : Int) + 1 := by omega
    have hr0 := tailF_q (k := z + 1) hok hab hb1000 (show m ≤ 64 by omega) (by omega)
    have HT0 : Hid (tailF (m : Int) ((z : Int) + 1) (fr false α β) = (Tq α β m (z + 1), 0)) := hr0.1
    have rT0 := hr0.2
    have hrp := tailF_q (k := z) hok hab hb1000 (show m ≤ 64 by omega) (by omega)
    have HTp : Hid (tailF (m : Int) (z : Int) (fr false α β) = (Tq α β m z, 0)) := hrp.1
    have rTp := hrp.2
    obtain ⟨s0, Hs0, hs0⟩ := cmp_no rT0 hok' hz2
    obtain ⟨sp, Hsp, hsp⟩ := cmp_yes rTp hok' (hz3 z rfl)
    clear hz1 hz2 hz3 hr0 rT0 hrp rTp
    obtain ⟨cP0, cP1, cP2⟩ := CP.out.cells3
    have ltP := CP.out.lt
    obtain ⟨cC0, cC1, cC2⟩ := CC.out.cells3
    have ltC := CC.out.lt
    go_wp2_with fail
    refine (tTail_c _ m ((z : Int) + 1) _ _ FP.out).mono ?_
    rw [HT0.out]
    rintro e w4 ⟨v, rfl, hv, hb4⟩
    have hv : IsF _ v (Tq α β m (z + 1)) := hv
    obtain ⟨va, vb, rfl, h1, h2⟩ := hv
    obtain ⟨pX, mX, rfl, _, _⟩ := h1.shape
    obtain ⟨qX, nX, rfl, _, _⟩ := h2.shape
    have FX := Lib.hid (IsF.at_ h1 h2)
    clear h1 h2
    clear cP0 cP1 cP2 ltP cC0 cC1 cC2 ltC
    replace CP := Lib.hid (CP.out.after hb4)
    replace CC := Lib.hid (CC.out.after hb4)
    replace FP := Lib.hid (FP.out.after hb4)
    replace FC := Lib.hid (FC.out.after hb4)
    replace HB := Lib.hid (HB.out.trans (hb4.mono HB.out.size))
    clear hb4
    have d_P_X : w2.heap.size < w4.heap.size := CP.out.lt
    have d_C_X : w2.heap.size + 1 < w4.heap.size := CC.out.lt
    have g_X : w.heap.size ≤ w4.heap.size := by have := HB.out.size; omega
    obtain ⟨cP0, cP1, cP2⟩ := CP.out.cells3
    have ltP := CP.out.lt
    obtain ⟨cC0, cC1, cC2⟩ := CC.out.cells3
    have ltC := CC.out.lt
    go_wp2_with fail
    refine (Cmp_c _ _ _ _ _ (FX.out.alloc _) (FC.out.alloc _)).mono ?_
    rw [Hs0.out]
    rintro e w5 ⟨rfl, hb5⟩
    clear cP0 cP1 cP2 ltP cC0 cC1 cC2 ltC
    obtain ⟨hb5, CX⟩ := after_new hb5
    replace CX := Lib.hid CX
    replace CP := Lib.hid (CP.out.after hb5)
    replace CC := Lib.hid (CC.out.after hb5)
    replace FP := Lib.hid (FP.out.after hb5)
    replace FC := Lib.hid (FC.out.after hb5)
    replace FX := Lib.hid (FX.out.after hb5)
    replace HB := Lib.hid (HB.out.trans (hb5.mono HB.out.size))
    clear hb5
    obtain ⟨cP0, cP1, cP2⟩ := CP.out.cells3
    have ltP := CP.out.lt
    obtain ⟨cC0, cC1, cC2⟩ := CC.out.cells3
    have ltC := CC.out.lt
    obtain ⟨cX0, cX1, cX2⟩ := CX.out.cells3
    have ltX := CX.out.lt
    go_wp2_with fail
    refine (tTail_c _ m z _ _ FP.out).mono ?_
    rw [HTp.out]
    rintro e w6 ⟨v, rfl, hv, hb6⟩
    have hv : IsF _ v (Tq α β m z) := hv
    obtain ⟨va, vb, rfl, h1, h2⟩ := hv
    obtain ⟨pY, mY, rfl, _, _⟩ := h1.shape
    obtain ⟨qY, nY, rfl, _, _⟩ := h2.shape
    have FY := Lib.hid (IsF.at_ h1 h2)
    clear h1 h2
    clear cP0 cP1 cP2 ltP cC0 cC1 cC2 ltC cX0 cX1 cX2 ltX
    replace CP := Lib.hid (CP.out.after hb6)
    replace CC := Lib.hid (CC.out.after hb6)
    replace CX := Lib.hid (CX.out.after hb6)
    replace FP := Lib.hid (FP.out.after hb6)
    replace FC := Lib.hid (FC.out.after hb6)
    replace FX := Lib.hid (FX.out.after hb6)
    replace HB := Lib.hid (HB.out.trans (hb6.mono HB.out.size))
    clear hb6
    obtain ⟨cP0, cP1, cP2⟩ := CP.out.cells3
    have ltP := CP.out.lt
    obtain ⟨cC0, cC1, cC2⟩ := CC.out.cells3
    have ltC := CC.out.lt
    obtain ⟨cX0, cX1, cX2⟩ := CX.out.cells3
    have ltX := CX.out.lt
    have zX0 := CX.out.frozen 0
    have zX1 := CX.out.frozen 1
    have zX2 := CX.out.frozen 2
    go_wp2_with fail
    refine (Cmp_c _ _ _ _ _ (FY.out.set3 CX.out (fun _ h => by cases h) (fun _ h => by cases h) (fun _ h => by cases h) _ _ _) (FC.out.set3 CX.out (fun _ h => by cases h) (fun _ h => by cases h) (fun _ h => by cases h) _ _ _)).mono ?_
    rw [Hsp.out]
    rintro e w7 ⟨rfl, hb7⟩
    clear cP0 cP1 cP2 ltP cC0 cC1 cC2 ltC cX0 cX1 cX2 ltX zX0 zX1 zX2
    obtain ⟨KB, KS, KW, NC⟩ := after_set CX.out (fun _ h => by cases h) (fun _ h => by cases h) (fun _ h => by cases h) hb7
    replace CP := Lib.hid (KB _ _ _ (by omega) CP.out)
    replace CC := Lib.hid (KB _ _ _ (by omega) CC.out)
    replace CX := Lib.hid NC
    replace FP := Lib.hid (FP.out.via KS)
    replace FC := Lib.hid (FC.out.via KS)
    replace FX := Lib.hid (FX.out.via KS)
    replace FY := Lib.hid (FY.out.via KS)
    replace HB := Lib.hid (KW _ _ HB.out (by omega))
    clear KB KS KW NC hb7
    obtain ⟨cP0, cP1, cP2⟩ := CP.out.cells3
    have ltP := CP.out.lt
    obtain ⟨cC0, cC1, cC2⟩ := CC.out.cells3
    have ltC := CC.out.lt
    obtain ⟨cX0, cX1, cX2⟩ := CX.out.cells3
    have ltX := CX.out.lt
    go_wp2_with fail
    refine (tUpper_c _ m i den _ _ FC.out).mono ?_
    rintro e w8 ⟨ru, rfl, hru, hb8⟩
    clear cP0 cP1 cP2 ltP cC0 cC1 cC2 ltC cX0 cX1 cX2 ltX
    replace CP := Lib.hid (CP.out.after hb8)
    replace CC := Lib.hid (CC.out.after hb8)
    replace CX := Lib.hid (CX.out.after hb8)
    replace FP := Lib.hid (FP.out.after hb8)
    replace FC := Lib.hid (FC.out.after hb8)
    replace FX := Lib.hid (FX.out.after hb8)
    replace FY := Lib.hid (FY.out.after hb8)
    replace HB := Lib.hid (HB.out.trans (hb8.mono HB.out.size))
    clear hb8
    obtain ⟨M, hM, rfl⟩ := upperF_val (by omega) him hok' hab' hd1 (by omega) hru
    clear hru
    obtain ⟨hM1, hM2, hM3⟩ := hM
    rcases Nat.lt_or_ge den M with hlt | hge
    · obtain rfl : M = den + 1 := by omega
      rw [if_pos (by omega)]
      have hno := hM2.resolve_left (by omega)
      have hno' : ¬ Abv m 1 (1 - 1) γ δ i := fun h => hno ((upB_red (g := den) (a := 1) (b := 1) (by omega) (by omega) (by omega) (by omega)).2 h)
      have hr1 := tailF_q (k := i) ok11 (Nat.le_refl 1) (by omega) (show m ≤ 64 by omega) him
      have HT1 : Hid (tailF (m : Int) (i : Int) (fr false 1 1) = (Tq 1 1 m i, 0)) := hr1.1
      have rT1 := hr1.2
      obtain ⟨s1, Hs1, hs1⟩ := cmp_no rT1 hok' hno'
      clear hM1 hM2 hM3 hno hno' hr1 rT1
      obtain ⟨cP0, cP1, cP2⟩ := CP.out.cells3
      have ltP := CP.out.lt
      obtain ⟨cC0, cC1, cC2⟩ := CC.out.cells3
      have ltC := CC.out.lt
      obtain ⟨cX0, cX1, cX2⟩ := CX.out.cells3
      have ltX := CX.out.lt
      go_wp2_with fail
      refine (lone_c _).mono ?_
      rw [w_11]
      rintro e w9 ⟨v, rfl, hv, hb9⟩
      have hv : IsF _ v (fr false 1 1) := hv
      obtain ⟨va, vb, rfl, h1, h2⟩ := hv
      obtain ⟨pO, mO, rfl, _, _⟩ := h1.shape
      obtain ⟨qO, nO, rfl, _, _⟩ := h2.shape
      have FO := Lib.hid (IsF.at_ h1 h2)
      clear h1 h2
      clear cP0 cP1 cP2 ltP cC0 cC1 cC2 ltC cX0 cX1 cX2 ltX
      replace CP := Lib.hid (CP.out.after hb9)
      replace CC := Lib.hid (CC.out.after hb9)
      replace CX := Lib.hid (CX.out.after hb9)
      replace FP := Lib.hid (FP.out.after hb9)
      replace FC := Lib.hid (FC.out.after hb9)
      replace FX := Lib.hid (FX.out.after hb9)
      replace FY := Lib.hid (FY.out.after hb9)
      replace HB := Lib.hid (HB.out.trans (hb9.mono HB.out.size))
      clear hb9
      obtain ⟨cP0, cP1, cP2⟩ := CP.out.cells3
      have ltP := CP.out.lt
      obtain ⟨cC0, cC1, cC2⟩ := CC.out.cells3
      have ltC := CC.out.lt
      obtain ⟨cX0, cX1, cX2⟩ := CX.out.cells3
      have ltX := CX.out.lt
      go_wp2_with fail
      refine (tTail_c _ m i _ _ FO.out).mono ?_
      rw [HT1.out]
      rintro e w10 ⟨v, rfl, hv, hb10⟩
      have hv : IsF _ v (Tq 1 1 m i) := hv
      obtain ⟨va, vb, rfl, h1, h2⟩ := hv
      obtain ⟨px1, mx1, rfl, _, _⟩ := h1.shape
      obtain ⟨qx1, nx1, rfl, _, _⟩ := h2.shape
      have Fx1 := Lib.hid (IsF.at_ h1 h2)
      clear h1 h2
      clear cP0 cP1 cP2 ltP cC0 cC1 cC2 ltC cX0 cX1 cX2 ltX
      replace CP := Lib.hid (CP.out.after hb10)
      replace CC := Lib.hid (CC.out.after hb10)
      replace CX := Lib.hid (CX.out.after hb10)
      replace FP := Lib.hid (FP.out.after hb10)
      replace FC := Lib.hid (FC.out.after hb10)
      replace FX := Lib.hid (FX.out.after hb10)
      replace FY := Lib.hid (FY.out.after hb10)
      replace FO := Lib.hid (FO.out.after hb10)
      replace HB := Lib.hid (HB.out.trans (hb10.mono HB.out.size))
      clear hb10
      obtain ⟨cP0, cP1, cP2⟩ := CP.out.cells3
      have ltP := CP.out.lt
      obtain ⟨cC0, cC1, cC2⟩ := CC.out.cells3
      have ltC := CC.out.lt
      obtain ⟨cX0, cX1, cX2⟩ := CX.out.cells3
      have ltX := CX.out.lt
      have zX0 := CX.out.frozen 0
      have zX1 := CX.out.frozen 1
      have zX2 := CX.out.frozen 2
      go_wp2_with fail
      refine (Cmp_c _ _ _ _ _ (Fx1.out.set3 CX.out (fun _ h => by cases h) (fun _ h => by cases h) (fun _ h => by cases h) _ _ _) (FC.out.set3 CX.out (fun _ h => by cases h) (fun _ h => by cases h) (fun _ h => by cases h) _ _ _)).mono ?_
      rw [Hs1.out]
      rintro e w11 ⟨rfl, hb11⟩
      clear cP0 cP1 cP2 ltP cC0 cC1 cC2 ltC cX0 cX1 cX2 ltX zX0 zX1 zX2
      obtain ⟨KB, KS, KW, NC⟩ := after_set CX.out (fun _ h => by cases h) (fun _ h => by cases h) (fun _ h => by cases h) hb11
      replace CP := Lib.hid (KB _ _ _ (by omega) CP.out)
      replace CC := Lib.hid (KB _ _ _ (by omega) CC.out)
      replace CX := Lib.hid NC
      replace FP := Lib.hid (FP.out.via KS)
      replace FC := Lib.hid (FC.out.via KS)
      replace FX := Lib.hid (FX.out.via KS)
      replace FY := Lib.hid (FY.out.via KS)
      replace FO := Lib.hid (FO.out.via KS)
      replace Fx1 := Lib.hid (Fx1.out.via KS)
      replace HB := Lib.hid (KW _ _ HB.out (by omega))
      clear KB KS KW NC hb11
      obtain ⟨cP0, cP1, cP2⟩ := CP.out.cells3
      have ltP := CP.out.lt
      obtain ⟨cC0, cC1, cC2⟩ := CC.out.cells3
      have ltC := CC.out.lt
      obtain ⟨cX0, cX1, cX2⟩ := CX.out.cells3
      have ltX := CX.out.lt
      go_wp2_with fail
      refine (works_c _).mono ?_
      rintro e w12 ⟨rfl, hb12⟩
      clear cP0 cP1 cP2 ltP cC0 cC1 cC2 ltC cX0 cX1 cX2 ltX
      replace CP := Lib.hid (CP.out.after hb12)
      replace CC := Lib.hid (CC.out.after hb12)
      replace CX := Lib.hid (CX.out.after hb12)
      replace FP := Lib.hid (FP.out.after hb12)
      replace FC := Lib.hid (FC.out.after hb12)
      replace FX := Lib.hid (FX.out.after hb12)
      replace FY := Lib.hid (FY.out.after hb12)
      replace FO := Lib.hid (FO.out.after hb12)
      replace Fx1 := Lib.hid (Fx1.out.after hb12)
      replace HB := Lib.hid (HB.out.trans (hb12.mono HB.out.size))
      clear hb12
      go_wp2_with fail
      go_ret
      exact ⟨rfl, HB.out⟩
    · have hyes := hM3.resolve_left (by omega)
      rw [if_neg (by omega)]
      obtain ⟨a1, b1, ho1, hok1, hab1, hb11, _, g1, hg1, e1, e2⟩ := of_small (j := M) (den := den) hge (by omega) (by omega)
      have HO1 : Hid ((ofF (M : Int) (den : Int)).1 = fr false a1 b1) := congrArg Prod.fst ho1
      have hyes' := (upB_red hg1 e1 e2 hab1).1 hyes
      have hr1 := tailF_q (k := i) hok1 hab1 hb11 (show m ≤ 64 by omega) him
      have HT1 : Hid (tailF (m : Int) (i : Int) (fr false a1 b1) = (Tq a1 b1 m i, 0)) := hr1.1
      have rT1 := hr1.2
      obtain ⟨s1, Hs1, hs1⟩ := cmp_yes rT1 hok' hyes'
      clear hyes hyes' hr1 rT1 ho1 e1 e2 hM3
      rcases M with _ | M
      · rw [show ((0 : Nat) : Int) = 0 from rfl]
        have HO1b : Hid ((ofF 0 (den : Int)).1 = fr false a1 b1) := HO1.out
        clear hM1 hM2 HO1
        obtain ⟨cP0, cP1, cP2⟩ := CP.out.cells3
        have ltP := CP.out.lt
        obtain ⟨cC0, cC1, cC2⟩ := CC.out.cells3
        have ltC := CC.out.lt
        obtain ⟨cX0, cX1, cX2⟩ := CX.out.cells3
        have ltX := CX.out.lt
        go_wp2_with fail
        refine (of_c _ 0 den (by omega) (by omega) (by omega) (by omega)).mono ?_
        rw [HO1b.out]
        rintro e w9 ⟨v, rfl, hv, hb9⟩
        have hv : IsF _ v (fr false a1 b1) := hv
        obtain ⟨va, vb, rfl, h1, h2⟩ := hv
        obtain ⟨pO, mO, rfl, _, _⟩ := h1.shape
        obtain ⟨qO, nO, rfl, _, _⟩ := h2.shape
        have FO := Lib.hid (IsF.at_ h1 h2)
        clear h1 h2
        clear cP0 cP1 cP2 ltP cC0 cC1 cC2 ltC cX0 cX1 cX2 ltX
        replace CP := Lib.hid (CP.out.after hb9)
        replace CC := Lib.hid (CC.out.after hb9)
        replace CX := Lib.hid (CX.out.after hb9)
        replace FP := Lib.hid (FP.out.after hb9)
        replace FC := Lib.hid (FC.out.after hb9)
        replace FX := Lib.hid (FX.out.after hb9)
        replace FY := Lib.hid (FY.out.after hb9)
        replace HB := Lib.hid (HB.out.trans (hb9.mono HB.out.size))
        clear hb9
        obtain ⟨cP0, cP1, cP2⟩ := CP.out.cells3
        have ltP := CP.out.lt
        obtain ⟨cC0, cC1, cC2⟩ := CC.out.cells3
        have ltC := CC.out.lt
        obtain ⟨cX0, cX1, cX2⟩ := CX.out.cells3
        have ltX := CX.out.lt
        go_wp2_with fail
        refine (tTail_c _ m i _ _ FO.out).mono ?_
        rw [HT1.out]
        rintro e w10 ⟨v, rfl, hv, hb10⟩
        have hv : IsF _ v (Tq a1 b1 m i) := hv
        obtain ⟨va, vb, rfl, h1, h2⟩ := hv
        obtain ⟨px1, mx1, rfl, _, _⟩ := h1.shape
        obtain ⟨qx1, nx1, rfl, _, _⟩ := h2.shape
        have Fx1 := Lib.hid (IsF.at_ h1 h2)
        clear h1 h2
        clear cP0 cP1 cP2 ltP cC0 cC1 cC2 ltC cX0 cX1 cX2 ltX
        replace CP := Lib.hid (CP.out.after hb10)
        replace CC := Lib.hid (CC.out.after hb10)
        replace CX := Lib.hid (CX.out.after hb10)
        replace FP := Lib.hid (FP.out.after hb10)
        replace FC := Lib.hid (FC.out.after hb10)
        replace FX := Lib.hid (FX.out.after hb10)
        replace FY := Lib.hid (FY.out.after hb10)
        replace FO := Lib.hid (FO.out.after hb10)
        replace HB := Lib.hid (HB.out.trans (hb10.mono HB.out.size))
        clear hb10
        obtain ⟨cP0, cP1, cP2⟩ := CP.out.cells3
        have ltP := CP.out.lt
        obtain ⟨cC0, cC1, cC2⟩ := CC.out.cells3
        have ltC := CC.out.lt
        obtain ⟨cX0, cX1, cX2⟩ := CX.out.cells3
        have ltX := CX.out.lt
        have zX0 := CX.out.frozen 0
        have zX1 := CX.out.frozen 1
        have zX2 := CX.out.frozen 2
        go_wp2_with fail
        refine (Cmp_c _ _ _ _ _ (Fx1.out.set3 CX.out (fun _ h => by cases h) (fun _ h => by cases h) (fun _ h => by cases h) _ _ _) (FC.out.set3 CX.out (fun _ h => by cases h) (fun _ h => by cases h) (fun _ h => by cases h) _ _ _)).mono ?_
        rw [Hs1.out]
        rintro e w11 ⟨rfl, hb11⟩
        clear cP0 cP1 cP2 ltP cC0 cC1 cC2 ltC cX0 cX1 cX2 ltX zX0 zX1 zX2
        obtain ⟨KB, KS, KW, NC⟩ := after_set CX.out (fun _ h => by cases h) (fun _ h => by cases h) (fun _ h => by cases h) hb11
        replace CP := Lib.hid (KB _ _ _ (by omega) CP.out)
        replace CC := Lib.hid (KB _ _ _ (by omega) CC.out)
        replace CX := Lib.hid NC
        replace FP := Lib.hid (FP.out.via KS)
        replace FC := Lib.hid (FC.out.via KS)
        replace FX := Lib.hid (FX.out.via KS)
        replace FY := Lib.hid (FY.out.via KS)
        replace FO := Lib.hid (FO.out.via KS)
        replace Fx1 := Lib.hid (Fx1.out.via KS)
        replace HB := Lib.hid (KW _ _ HB.out (by omega))
        clear KB KS KW NC hb11
        obtain ⟨cP0, cP1, cP2⟩ := CP.out.cells3
        have ltP := CP.out.lt
        obtain ⟨cC0, cC1, cC2⟩ := CC.out.cells3
        have ltC := CC.out.lt
        obtain ⟨cX0, cX1, cX2⟩ := CX.out.cells3
        have ltX := CX.out.lt
        go_wp2_with fail
        refine (works_c _).mono ?_
        rintro e w12 ⟨rfl, hb12⟩
        clear cP0 cP1 cP2 ltP cC0 cC1 cC2 ltC cX0 cX1 cX2 ltX
        replace CP := Lib.hid (CP.out.after hb12)
        replace CC := Lib.hid (CC.out.after hb12)
        replace CX := Lib.hid (CX.out.after hb12)
        replace FP := Lib.hid (FP.out.after hb12)
        replace FC := Lib.hid (FC.out.after hb12)
        replace FX := Lib.hid (FX.out.after hb12)
        replace FY := Lib.hid (FY.out.after hb12)
        replace FO := Lib.hid (FO.out.after hb12)
        replace Fx1 := Lib.hid (Fx1.out.after hb12)
        replace HB := Lib.hid (HB.out.trans (hb12.mono HB.out.size))
        clear hb12
        go_wp2_with fail
        go_ret
        exact ⟨rfl, HB.out⟩
      · rw [show ((M + 1 : Nat) : Int) = (M : Int) + 1 from by omega]
        have hM0 : (0 : Int) ≤ (M : Int) := Int.natCast_nonneg _
        have hMd : (M : Int) + 1 ≤ (den : Int) := by omega
        have HO1b : Hid ((ofF ((M : Int) + 1) (den : Int)).1 = fr false a1 b1) := HO1.out
        have hno := hM2.resolve_left (by omega)
        obtain ⟨a2, b2, ho2, hok2, hab2, hb12, _, g2, hg2, e1, e2⟩ := of_small (j := M) (den := den) (by omega) (by omega) (by omega)
        have HO2 : Hid ((ofF (M : Int) (den : Int)).1 = fr false a2 b2) := congrArg Prod.fst ho2
        have hno' : ¬ Abv m a2 (b2 - a2) γ δ i := fun h => hno ((upB_red hg2 e1 e2 hab2).2 h)
        have hr2 := tailF_q (k := i) hok2 hab2 hb12 (show m ≤ 64 by omega) him
        have HT2 : Hid (tailF (m : Int) (i : Int) (fr false a2 b2) = (Tq a2 b2 m i, 0)) := hr2.1
        have rT2 := hr2.2
        obtain ⟨s2, Hs2, hs2⟩ := cmp_no rT2 hok' hno'
        clear hno hno' hr2 rT2 ho2 e1 e2
        clear hM1 hM2 HO1
        obtain ⟨cP0, cP1, cP2⟩ := CP.out.cells3
        have ltP := CP.out.lt
        obtain ⟨cC0, cC1, cC2⟩ := CC.out.cells3
        have ltC := CC.out.lt
        obtain ⟨cX0, cX1, cX2⟩ := CX.out.cells3
        have ltX := CX.out.lt
        go_wp2_with fail
        refine (of_c _ ((M : Int) + 1) den (by omega) (by omega) (by omega) (by omega)).mono ?_
        rw [HO1b.out]
        rintro e w9 ⟨v, rfl, hv, hb9⟩
        have hv : IsF _ v (fr false a1 b1) := hv
        obtain ⟨va, vb, rfl, h1, h2⟩ := hv
        obtain ⟨pO, mO, rfl, _, _⟩ := h1.shape
        obtain ⟨qO, nO, rfl, _, _⟩ := h2.shape
        have FO := Lib.hid (IsF.at_ h1 h2)
        clear h1 h2
        clear cP0 cP1 cP2 ltP cC0 cC1 cC2 ltC cX0 cX1 cX2 ltX
        replace CP := Lib.hid (CP.out.after hb9)
        replace CC := Lib.hid (CC.out.after hb9)
        replace CX := Lib.hid (CX.out.after hb9)
        replace FP := Lib.hid (FP.out.after hb9)
        replace FC := Lib.hid (FC.out.after hb9)
        replace FX := Lib.hid (FX.out.after hb9)
        replace FY := Lib.hid (FY.out.after hb9)
        replace HB := Lib.hid (HB.out.trans (hb9.mono HB.out.size))
        clear hb9
        obtain ⟨cP0, cP1, cP2⟩ := CP.out.cells3
        have ltP := CP.out.lt
        obtain ⟨cC0, cC1, cC2⟩ := CC.out.cells3
        have ltC := CC.out.lt
        obtain ⟨cX0, cX1, cX2⟩ := CX.out.cells3
        have ltX := CX.out.lt
        go_wp2_with fail
        refine (tTail_c _ m i _ _ FO.out).mono ?_
        rw [HT1.out]
        rintro e w10 ⟨v, rfl, hv, hb10⟩
        have hv : IsF _ v (Tq a1 b1 m i) := hv
        obtain ⟨va, vb, rfl, h1, h2⟩ := hv
        obtain ⟨px1, mx1, rfl, _, _⟩ := h1.shape
        obtain ⟨qx1, nx1, rfl, _, _⟩ := h2.shape
        have Fx1 := Lib.hid (IsF.at_ h1 h2)
        clear h1 h2
        clear cP0 cP1 cP2 ltP cC0 cC1 cC2 ltC cX0 cX1 cX2 ltX
        replace CP := Lib.hid (CP.out.after hb10)
        replace CC := Lib.hid (CC.out.after hb10)
        replace CX := Lib.hid (CX.out.after hb10)
        replace FP := Lib.hid (FP.out.after hb10)
        replace FC := Lib.hid (FC.out.after hb10)
        replace FX := Lib.hid (FX.out.after hb10)
        replace FY := Lib.hid (FY.out.after hb10)
        replace FO := Lib.hid (FO.out.after hb10)
        replace HB := Lib.hid (HB.out.trans (hb10.mono HB.out.size))
        clear hb10
        obtain ⟨cP0, cP1, cP2⟩ := CP.out.cells3
        have ltP := CP.out.lt
        obtain ⟨cC0, cC1, cC2⟩ := CC.out.cells3
        have ltC := CC.out.lt
        obtain ⟨cX0, cX1, cX2⟩ := CX.out.cells3
        have ltX := CX.out.lt
        have zX0 := CX.out.frozen 0
        have zX1 := CX.out.frozen 1
        have zX2 := CX.out.frozen 2
        go_wp2_with fail
        refine (Cmp_c _ _ _ _ _ (Fx1.out.set3 CX.out (fun _ h => by cases h) (fun _ h => by cases h) (fun _ h => by cases h) _ _ _) (FC.out.set3 CX.out (fun _ h => by cases h) (fun _ h => by cases h) (fun _ h => by cases h) _ _ _)).mono ?_
        rw [Hs1.out]
        rintro e w11 ⟨rfl, hb11⟩
        clear cP0 cP1 cP2 ltP cC0 cC1 cC2 ltC cX0 cX1 cX2 ltX zX0 zX1 zX2
        obtain ⟨KB, KS, KW, NC⟩ := after_set CX.out (fun _ h => by cases h) (fun _ h => by cases h) (fun _ h => by cases h) hb11
        replace CP := Lib.hid (KB _ _ _ (by omega) CP.out)
        replace CC := Lib.hid (KB _ _ _ (by omega) CC.out)
        replace CX := Lib.hid NC
        replace FP := Lib.hid (FP.out.via KS)
        replace FC := Lib.hid (FC.out.via KS)
        replace FX := Lib.hid (FX.out.via KS)
        replace FY := Lib.hid (FY.out.via KS)
        replace FO := Lib.hid (FO.out.via KS)
        replace Fx1 := Lib.hid (Fx1.out.via KS)
        replace HB := Lib.hid (KW _ _ HB.out (by omega))
        clear KB KS KW NC hb11
        obtain ⟨cP0, cP1, cP2⟩ := CP.out.cells3
        have ltP := CP.out.lt
        obtain ⟨cC0, cC1, cC2⟩ := CC.out.cells3
        have ltC := CC.out.lt
        obtain ⟨cX0, cX1, cX2⟩ := CX.out.cells3
        have ltX := CX.out.lt
        go_wp2_with fail
        refine (of_c _ M den (by omega) (by omega) (by omega) (by omega)).mono ?_
        rw [HO2.out]
        rintro e w12 ⟨v, rfl, hv, hb12⟩
        have hv : IsF _ v (fr false a2 b2) := hv
        obtain ⟨va, vb, rfl, h1, h2⟩ := hv
        obtain ⟨pO2, mO2, rfl, _, _⟩ := h1.shape
        obtain ⟨qO2, nO2, rfl, _, _⟩ := h2.shape
        have FO2 := Lib.hid (IsF.at_ h1 h2)
        clear h1 h2
        clear cP0 cP1 cP2 ltP cC0 cC1 cC2 ltC cX0 cX1 cX2 ltX
        replace CP := Lib.hid (CP.out.after hb12)
        replace CC := Lib.hid (CC.out.after hb12)
        replace CX := Lib.hid (CX.out.after hb12)
        replace FP := Lib.hid (FP.out.after hb12)
        replace FC := Lib.hid (FC.out.after hb12)
        replace FX := Lib.hid (FX.out.after hb12)
        replace FY := Lib.hid (FY.out.after hb12)
        replace FO := Lib.hid (FO.out.after hb12)
        replace Fx1 := Lib.hid (Fx1.out.after hb12)
        replace HB := Lib.hid (HB.out.trans (hb12.mono HB.out.size))
        clear hb12
        obtain ⟨cP0, cP1, cP2⟩ := CP.out.cells3
        have ltP := CP.out.lt
        obtain ⟨cC0, cC1, cC2⟩ := CC.out.cells3
        have ltC := CC.out.lt
        obtain ⟨cX0, cX1, cX2⟩ := CX.out.cells3
        have ltX := CX.out.lt
        go_wp2_with fail
        refine (tTail_c _ m i _ _ FO2.out).mono ?_
        rw [HT2.out]
        rintro e w13 ⟨v, rfl, hv, hb13⟩
        have hv : IsF _ v (Tq a2 b2 m i) := hv
        obtain ⟨va, vb, rfl, h1, h2⟩ := hv
        obtain ⟨px2, mx2, rfl, _, _⟩ := h1.shape
        obtain ⟨qx2, nx2, rfl, _, _⟩ := h2.shape
        have Fx2 := Lib.hid (IsF.at_ h1 h2)
        clear h1 h2
        clear cP0 cP1 cP2 ltP cC0 cC1 cC2 ltC cX0 cX1 cX2 ltX
        replace CP := Lib.hid (CP.out.after hb13)
        replace CC := Lib.hid (CC.out.after hb13)
        replace CX := Lib.hid (CX.out.after hb13)
        replace FP := Lib.hid (FP.out.after hb13)
        replace FC := Lib.hid (FC.out.after hb13)
        replace FX := Lib.hid (FX.out.after hb13)
        replace FY := Lib.hid (FY.out.after hb13)
        replace FO := Lib.hid (FO.out.after hb13)
        replace Fx1 := Lib.hid (Fx1.out.after hb13)
        replace FO2 := Lib.hid (FO2.out.after hb13)
        replace HB := Lib.hid (HB.out.trans (hb13.mono HB.out.size))
        clear hb13
        obtain ⟨cP0, cP1, cP2⟩ := CP.out.cells3
        have ltP := CP.out.lt
        obtain ⟨cC0, cC1, cC2⟩ := CC.out.cells3
        have ltC := CC.out.lt
        obtain ⟨cX0, cX1, cX2⟩ := CX.out.cells3
        have ltX := CX.out.lt
        have zX0 := CX.out.frozen 0
        have zX1 := CX.out.frozen 1
        have zX2 := CX.out.frozen 2
        go_wp2_with fail
        refine (Cmp_c _ _ _ _ _ (Fx2.out.set3 CX.out (fun _ h => by cases h) (fun _ h => by cases h) (fun _ h => by cases h) _ _ _) (FC.out.set3 CX.out (fun _ h => by cases h) (fun _ h => by cases h) (fun _ h => by cases h) _ _ _)).mono ?_
        rw [Hs2.out]
        rintro e w14 ⟨rfl, hb14⟩
        clear cP0 cP1 cP2 ltP cC0 cC1 cC2 ltC cX0 cX1 cX2 ltX zX0 zX1 zX2
        obtain ⟨KB, KS, KW, NC⟩ := after_set CX.out (fun _ h => by cases h) (fun _ h => by cases h) (fun _ h => by cases h) hb14
        replace CP := Lib.hid (KB _ _ _ (by omega) CP.out)
        replace CC := Lib.hid (KB _ _ _ (by omega) CC.out)
        replace CX := Lib.hid NC
        replace FP := Lib.hid (FP.out.via KS)
        replace FC := Lib.hid (FC.out.via KS)
        replace FX := Lib.hid (FX.out.via KS)
        replace FY := Lib.hid (FY.out.via KS)
        replace FO := Lib.hid (FO.out.via KS)
        replace Fx1 := Lib.hid (Fx1.out.via KS)
        replace FO2 := Lib.hid (FO2.out.via KS)
        replace Fx2 := Lib.hid (Fx2.out.via KS)
        replace HB := Lib.hid (KW _ _ HB.out (by omega))
        clear KB KS KW NC hb14
        obtain ⟨cP0, cP1, cP2⟩ := CP.out.cells3
        have ltP := CP.out.lt
        obtain ⟨cC0, cC1, cC2⟩ := CC.out.cells3
        have ltC := CC.out.lt
        obtain ⟨cX0, cX1, cX2⟩ := CX.out.cells3
        have ltX := CX.out.lt
        go_wp2_with fail
        refine (works_c _).mono ?_
        rintro e w15 ⟨rfl, hb15⟩
        clear cP0 cP1 cP2 ltP cC0 cC1 cC2 ltC cX0 cX1 cX2 ltX
        replace CP := Lib.hid (CP.out.after hb15)
        replace CC := Lib.hid (CC.out.after hb15)
        replace CX := Lib.hid (CX.out.after hb15)
        replace FP := Lib.hid (FP.out.after hb15)
        replace FC := Lib.hid (FC.out.after hb15)
        replace FX := Lib.hid (FX.out.after hb15)
        replace FY := Lib.hid (FY.out.after hb15)
        replace FO := Lib.hid (FO.out.after hb15)
        replace Fx1 := Lib.hid (Fx1.out.after hb15)
        replace FO2 := Lib.hid (FO2.out.after hb15)
        replace Fx2 := Lib.hid (Fx2.out.after hb15)
        replace HB := Lib.hid (HB.out.trans (hb15.mono HB.out.size))
        clear hb15
        go_wp2_with fail
        go_ret
        exact ⟨rfl, HB.out⟩
end Go.Proofs.Ytppehiajocgiiaa
