/- The walk of TailsRise: tails rise with the rate and the trials and fall with k. -/
import Derived.Test.YtppehiajocgiiaaQTq
import Derived.Test.YtppehiajocgiiaaK21
set_option linter.unusedVariables false
namespace Go.Proofs.Ytppehiajocgiiaa
open Go.RowKit

theorem cmpF_err {x y : F} {z z' : Int} {d d' : Nat} (h : Rep x z d) (k : Rep y z' d') : cmpF x y = ((cmpF x y).1, 0) := by rw [rep_cmp h k]
theorem cmpF_le0 {x y : F} {z z' : Int} {d d' : Nat} (h : Rep x z d) (k : Rep y z' d') (hle : z * d' ≤ z' * d) : (cmpF x y).1 ≤ 0 := by
  rw [rep_cmp h k]
  show (if z * d' < z' * d then (-1 : Int) else if z * d' = z' * d then 0 else 1) ≤ 0
  split
  · omega
  · rw [if_pos (by omega)]; omega
theorem cmpF_le {α β γ δ : Nat} {s : Int} (h : Ok false α β) (k : Ok false γ δ) (hs : (cmpF (fr false α β) (fr false γ δ)).1 = s) (hl : s ≤ 0) : α * δ ≤ γ * β := by
  rw [rep_cmp (rep_of_ok h) (rep_of_ok k)] at hs
  change (if (α : Int) * δ < γ * β then (-1 : Int) else if (α : Int) * δ = γ * β then 0 else 1) = s at hs
  have e1 : ((α * δ : Nat) : Int) = (α : Int) * δ := by push_cast; rfl
  have e2 : ((γ * β : Nat) : Int) = (γ : Int) * β := by push_cast; rfl
  rw [← e1, ← e2] at hs
  split at hs
  · omega
  · split at hs <;> omega
theorem cmpF_gt {α β γ δ : Nat} {s : Int} (h : Ok false α β) (k : Ok false γ δ) (hs : (cmpF (fr false α β) (fr false γ δ)).1 = s) (hl : 0 < s) : γ * β ≤ α * δ := by
  rw [rep_cmp (rep_of_ok h) (rep_of_ok k)] at hs
  change (if (α : Int) * δ < γ * β then (-1 : Int) else if (α : Int) * δ = γ * β then 0 else 1) = s at hs
  have e1 : ((α * δ : Nat) : Int) = (α : Int) * δ := by push_cast; rfl
  have e2 : ((γ * β : Nat) : Int) = (γ : Int) * β := by push_cast; rfl
  rw [← e1, ← e2] at hs
  split at hs
  · omega
  · split at hs <;> omega
theorem Tq_rate {x y : F} {α β γ δ m i : Nat} (h : Rep x (tl α (β - α) m i : Nat) (β ^ m)) (k : Rep y (tl γ (δ - γ) m i : Nat) (δ ^ m)) (_ : Ok false α β) (_ : Ok false γ δ) (hab : α ≤ β) (hab' : γ ≤ δ) (hle : α * δ ≤ γ * β) : (cmpF x y).1 ≤ 0 := by
  refine cmpF_le0 h k ?_
  have h1 := tl_rate (a := δ * α) (c := δ * (β - α)) (a' := β * γ) (c' := β * (δ - γ)) (by rw [← Nat.mul_add, ← Nat.mul_add, Nat.add_sub_cancel' hab, Nat.add_sub_cancel' hab', Nat.mul_comm]) (by rw [Nat.mul_comm δ α, Nat.mul_comm β γ]; exact hle) m i
  rw [tl_scale, tl_scale] at h1
  have h2 : ((δ ^ m * tl α (β - α) m i : Nat) : Int) ≤ ((β ^ m * tl γ (δ - γ) m i : Nat) : Int) := by omega
  rw [Nat.mul_comm, Nat.mul_comm (β ^ m)] at h2
  rw [← Int.natCast_mul, ← Int.natCast_mul]
  exact h2
theorem Tq_more {x y : F} {α β m i : Nat} (h : Rep x (tl α (β - α) m i : Nat) (β ^ m)) (k : Rep y (tl α (β - α) (m + 1) i : Nat) (β ^ (m + 1))) (hab : α ≤ β) : (cmpF x y).1 ≤ 0 := by
  refine cmpF_le0 h k ?_
  have h1 := tl_more α (β - α) m i
  rw [Nat.add_sub_cancel' hab] at h1
  have h2 := Nat.mul_le_mul_right (β ^ m) h1
  have h3 : tl α (β - α) m i * β ^ (m + 1) ≤ tl α (β - α) (m + 1) i * β ^ m := by
    rw [Nat.pow_succ, Nat.mul_comm (β ^ m) β, ← Nat.mul_assoc, Nat.mul_comm _ β]
    exact h2
  rw [← Int.natCast_mul, ← Int.natCast_mul]
  omega
theorem Tq_less {x y : F} {α β m i : Nat} (h : Rep x (tl α (β - α) m (i + 1) : Nat) (β ^ m)) (k : Rep y (tl α (β - α) m i : Nat) (β ^ m)) : (cmpF x y).1 ≤ 0 := by
  refine cmpF_le0 h k ?_
  have h1 := Nat.mul_le_mul_right (β ^ m) (tl_anti α (β - α) m i)
  rw [← Int.natCast_mul, ← Int.natCast_mul]
  omega

set_option maxRecDepth 100000 in
set_option maxHeartbeats 8000000 in
theorem rise_walk (w : World) (n k a b c d : Nat) (hn : n < 256) (hk : k < 256) (ha : a < 256) (hb : b < 256) (hc : c < 256) (hd : d < 256) : Calls Try.prog 6 #[.int .u8 (n : Int), .int .u8 (k : Int), .int .u8 (a : Int), .int .u8 (b : Int), .int .u8 (c : Int), .int .u8 (d : Int)] w fun e w' => e = .returned (.bool true) ∧ Below w.heap.size w w' := by
  obtain ⟨α, β, hp, hok, hab, hb1000, _, _⟩ := of_small (j := a % (b % 30 + 2)) (den := b % 30 + 1) (by have := Nat.mod_lt a (show 0 < b % 30 + 2 by omega); omega) (by omega) (by omega)
  have HP : Hid ((ofF ((a % (b % 30 + 2) : Nat) : Int) ((b % 30 + 1 : Nat) : Int)).1 = fr false α β) := congrArg Prod.fst hp
  obtain ⟨γ, δ, hq, hok', hab', hb1000', _, _⟩ := of_small (j := c % (d % 30 + 2)) (den := d % 30 + 1) (by have := Nat.mod_lt c (show 0 < d % 30 + 2 by omega); omega) (by omega) (by omega)
  have HQ : Hid ((ofF ((c % (d % 30 + 2) : Nat) : Int) ((d % 30 + 1 : Nat) : Int)).1 = fr false γ δ) := congrArg Prod.fst hq
  obtain ⟨m, hmn⟩ : ∃ m, n % 12 = m := ⟨_, rfl⟩
  have hm12 : m ≤ 11 := by omega
  have hm : (n : Int) % 12 = (m : Int) := by omega
  obtain ⟨i, hin⟩ : ∃ i, k % (m + 2) = i := ⟨_, rfl⟩
  have him : i ≤ m + 1 := by have := Nat.mod_lt k (show 0 < m + 2 by omega); omega
  have hi : (k : Int) % ((m : Int) + 2) = (i : Int) := by rw [← hin]; push_cast; rfl
  obtain ⟨s, hs⟩ : ∃ s, (cmpF (fr false α β) (fr false γ δ)).1 = s := ⟨_, rfl⟩
  have HS : Hid (cmpF (fr false α β) (fr false γ δ) = (s, 0)) := by show _ = _; rw [← hs]; exact cmpF_err (rep_of_ok hok) (rep_of_ok hok')
  clear hp hq hmn hin
  have HB : Hid (Below w.heap.size w w) := Below.refl _ _
  rcases Int.lt_or_le 0 s with hgt | hle0
  · have hle : γ * β ≤ α * δ := cmpF_gt hok hok' hs hgt
    rcases i with _ | i
    · have HB0 : Hid (tailF (m : Int) (0 : Int) (fr false γ δ) = (Tq γ δ m 0, 0)) := (tailF_q (m := m) (k := 0) hok' hab' hb1000' (by omega) him).1
      have HM0 : Hid (tailF (m : Int) (0 : Int) (fr false α β) = (Tq α β m 0, 0)) := (tailF_q (m := m) (k := 0) hok hab hb1000 (by omega) him).1
      have HM1 : Hid (tailF ((m : Int) + 1) (0 : Int) (fr false γ δ) = (Tq γ δ (m + 1) 0, 0)) := (tailF_q (m := m + 1) (k := 0) hok' hab' hb1000' (by omega) (by omega)).1
      have rB := (tailF_q (m := m) (k := 0) hok' hab' hb1000' (by omega) him).2
      have rM := (tailF_q (m := m) (k := 0) hok hab hb1000 (by omega) him).2
      have rM1 := (tailF_q (m := m + 1) (k := 0) hok' hab' hb1000' (by omega) (by omega)).2
      obtain ⟨c0, hc0⟩ : ∃ c0, (cmpF (Tq γ δ m 0) (Tq α β m 0)).1 = c0 := ⟨_, rfl⟩
      have hl0 : c0 ≤ 0 := by rw [← hc0]; exact Tq_rate rB rM hok' hok hab' hab hle
      have HC0 : Hid (cmpF (Tq γ δ m 0) (Tq α β m 0) = (c0, 0)) := by show _ = _; rw [← hc0]; exact cmpF_err rB rM
      obtain ⟨c1, hc1⟩ : ∃ c1, (cmpF (Tq γ δ m 0) (Tq γ δ (m + 1) 0)).1 = c1 := ⟨_, rfl⟩
      have hl1 : c1 ≤ 0 := by rw [← hc1]; exact Tq_more rB rM1 hab'
      have HC1 : Hid (cmpF (Tq γ δ m 0) (Tq γ δ (m + 1) 0) = (c1, 0)) := by show _ = _; rw [← hc1]; exact cmpF_err rB rM1
      have hiv : (k : Int) % ((m : Int) + 2) = 0 := hi
      clear hi
      clear rB rM rM1 hc0 hc1 hs hle
      go_enter Try.func6, Try.ntmps6
      go_wp2_with fail
      refine (lrate_c _ a b ha hb).mono ?_
      rw [HP.out]
      rintro e w1 ⟨v, rfl, hv, hb1⟩
      have hv : IsF _ v (fr false α β) := hv
      obtain ⟨va, vb, rfl, h1, h2⟩ := hv
      obtain ⟨pP, mP, rfl, _, _⟩ := h1.shape
      obtain ⟨qP, nP, rfl, _, _⟩ := h2.shape
      have FP := Lib.hid (IsF.at_ h1 h2)
      clear h1 h2
      replace HB := Lib.hid (HB.out.trans (hb1.mono HB.out.size))
      clear hb1
      go_wp2_with fail
      refine (lrate_c _ c d hc hd).mono ?_
      rw [HQ.out]
      rintro e w2 ⟨v, rfl, hv, hb2⟩
      have hv : IsF _ v (fr false γ δ) := hv
      obtain ⟨va, vb, rfl, h1, h2⟩ := hv
      obtain ⟨pQ, mQ, rfl, _, _⟩ := h1.shape
      obtain ⟨qQ, nQ, rfl, _, _⟩ := h2.shape
      have FQ := Lib.hid (IsF.at_ h1 h2)
      clear h1 h2
      replace FP := Lib.hid (FP.out.after hb2)
      replace HB := Lib.hid (HB.out.trans (hb2.mono HB.out.size))
      clear hb2
      have g_P : w.heap.size ≤ w2.heap.size := by have := HB.out.size; omega
      have d_P_Q : w2.heap.size < w2.heap.size + 1 := by omega
      have g_Q : w.heap.size ≤ w2.heap.size + 1 := by have := HB.out.size; omega
      go_wp2_with fail
      refine (Cmp_c _ _ _ (fr false α β) (fr false γ δ) ((FP.out.alloc _).alloc _) ((FQ.out.alloc _).alloc _)).mono ?_
      rw [HS.out]
      rintro e w3 ⟨rfl, hb3⟩
      obtain ⟨hb3, CP, CQ⟩ := after_new2 hb3
      replace CP := Lib.hid CP
      replace CQ := Lib.hid CQ
      replace FP := Lib.hid (FP.out.after hb3)
      replace FQ := Lib.hid (FQ.out.after hb3)
      replace HB := Lib.hid (HB.out.trans (hb3.mono HB.out.size))
      clear hb3
      obtain ⟨cP0, cP1, cP2⟩ := CP.out.cells3
      have ltP := CP.out.lt
      have zP0 := CP.out.frozen 0
      have zP1 := CP.out.frozen 1
      have zP2 := CP.out.frozen 2
      obtain ⟨cQ0, cQ1, cQ2⟩ := CQ.out.cells3
      have ltQ := CQ.out.lt
      have zQ0 := CQ.out.frozen 0
      have zQ1 := CQ.out.frozen 1
      have zQ2 := CQ.out.frozen 2
      go_wp2_with fail
      clear cP0 cP1 cP2 ltP zP0 zP1 zP2 cQ0 cQ1 cQ2 ltQ zQ0 zQ1 zQ2
      obtain ⟨wa, hw⟩ : ∃ wa, wa = ((w3.setCell ⟨w2.heap.size, 0, none⟩ (.bool (fr false γ δ).neg)).setCell ⟨w2.heap.size, 1, none⟩ (.slice pQ (fr false γ δ).num.length mQ)).setCell ⟨w2.heap.size, 2, none⟩ (.slice qQ (fr false γ δ).den.length nQ) := ⟨_, rfl⟩
      have hb := below_same hw
      rw [← hw]
      clear hw
      obtain ⟨KB, KS, KW, NC⟩ := after_set CP.out (fun _ h => by cases h) (fun _ h => by cases h) (fun _ h => by cases h) hb
      replace CQ := Lib.hid (KB _ _ _ (by omega) CQ.out)
      replace CP := Lib.hid NC
      replace FP := Lib.hid (FP.out.via KS)
      replace FQ := Lib.hid (FQ.out.via KS)
      replace HB := Lib.hid (KW _ _ HB.out (by omega))
      clear KB KS KW NC hb
      obtain ⟨wb, hw⟩ : ∃ wb, wb = ((wa.setCell ⟨w2.heap.size + 1, 0, none⟩ (.bool (fr false α β).neg)).setCell ⟨w2.heap.size + 1, 1, none⟩ (.slice pP (fr false α β).num.length mP)).setCell ⟨w2.heap.size + 1, 2, none⟩ (.slice qP (fr false α β).den.length nP) := ⟨_, rfl⟩
      have hb := below_same hw
      rw [← hw]
      clear hw
      obtain ⟨KB, KS, KW, NC⟩ := after_set CQ.out (fun _ h => by cases h) (fun _ h => by cases h) (fun _ h => by cases h) hb
      replace CP := Lib.hid (KB _ _ _ (by omega) CP.out)
      replace CQ := Lib.hid NC
      replace FP := Lib.hid (FP.out.via KS)
      replace FQ := Lib.hid (FQ.out.via KS)
      replace HB := Lib.hid (KW _ _ HB.out (by omega))
      clear KB KS KW NC hb
      refine (tTail_c _ m 0 _ (fr false γ δ) FQ.out).mono ?_
      rw [HB0.out]
      rintro e w4 ⟨v, rfl, hv, hb4⟩
      have hv : IsF _ v (Tq γ δ (m) (0)) := hv
      obtain ⟨va, vb, rfl, h1, h2⟩ := hv
      obtain ⟨pB, mB, rfl, _, _⟩ := h1.shape
      obtain ⟨qB, nB, rfl, _, _⟩ := h2.shape
      have FB := Lib.hid (IsF.at_ h1 h2)
      clear h1 h2
      replace CP := Lib.hid (CP.out.after hb4)
      replace CQ := Lib.hid (CQ.out.after hb4)
      replace FP := Lib.hid (FP.out.after hb4)
      replace FQ := Lib.hid (FQ.out.after hb4)
      replace HB := Lib.hid (HB.out.trans (hb4.mono HB.out.size))
      clear hb4
      have d_P_B : w2.heap.size < w4.heap.size := CP.out.lt
      have d_Q_B : w2.heap.size + 1 < w4.heap.size := CQ.out.lt
      have g_B : w.heap.size ≤ w4.heap.size := by have := HB.out.size; omega
      obtain ⟨cP0, cP1, cP2⟩ := CP.out.cells3
      have ltP := CP.out.lt
      obtain ⟨cQ0, cQ1, cQ2⟩ := CQ.out.cells3
      have ltQ := CQ.out.lt
      go_wp2_with fail
      refine (tTail_c _ m 0 _ (fr false α β) (FP.out.alloc _)).mono ?_
      rw [HM0.out]
      rintro e w5 ⟨v, rfl, hv, hb5⟩
      have hv : IsF _ v (Tq α β (m) (0)) := hv
      obtain ⟨va, vb, rfl, h1, h2⟩ := hv
      obtain ⟨pM, mM, rfl, _, _⟩ := h1.shape
      obtain ⟨qM, nM, rfl, _, _⟩ := h2.shape
      have FM := Lib.hid (IsF.at_ h1 h2)
      clear h1 h2
      clear cP0 cP1 cP2 ltP cQ0 cQ1 cQ2 ltQ
      obtain ⟨hb5, CB⟩ := after_new hb5
      replace CB := Lib.hid CB
      replace CP := Lib.hid (CP.out.after hb5)
      replace CQ := Lib.hid (CQ.out.after hb5)
      replace FP := Lib.hid (FP.out.after hb5)
      replace FQ := Lib.hid (FQ.out.after hb5)
      replace FB := Lib.hid (FB.out.after hb5)
      replace HB := Lib.hid (HB.out.trans (hb5.mono HB.out.size))
      clear hb5
      have d_P_M : w2.heap.size < w5.heap.size := CP.out.lt
      have d_Q_M : w2.heap.size + 1 < w5.heap.size := CQ.out.lt
      have d_B_M : w4.heap.size < w5.heap.size := CB.out.lt
      have g_M : w.heap.size ≤ w5.heap.size := by have := HB.out.size; omega
      obtain ⟨cP0, cP1, cP2⟩ := CP.out.cells3
      have ltP := CP.out.lt
      obtain ⟨cQ0, cQ1, cQ2⟩ := CQ.out.cells3
      have ltQ := CQ.out.lt
      obtain ⟨cB0, cB1, cB2⟩ := CB.out.cells3
      have ltB := CB.out.lt
      go_wp2_with fail
      refine (Cmp_c _ _ _ _ _ (FB.out.alloc _) (FM.out.alloc _)).mono ?_
      rw [HC0.out]
      rintro e w6 ⟨rfl, hb6⟩
      clear cP0 cP1 cP2 ltP cQ0 cQ1 cQ2 ltQ cB0 cB1 cB2 ltB
      obtain ⟨hb6, CM⟩ := after_new hb6
      replace CM := Lib.hid CM
      replace CP := Lib.hid (CP.out.after hb6)
      replace CQ := Lib.hid (CQ.out.after hb6)
      replace CB := Lib.hid (CB.out.after hb6)
      replace FP := Lib.hid (FP.out.after hb6)
      replace FQ := Lib.hid (FQ.out.after hb6)
      replace FB := Lib.hid (FB.out.after hb6)
      replace FM := Lib.hid (FM.out.after hb6)
      replace HB := Lib.hid (HB.out.trans (hb6.mono HB.out.size))
      clear hb6
      obtain ⟨cP0, cP1, cP2⟩ := CP.out.cells3
      have ltP := CP.out.lt
      obtain ⟨cQ0, cQ1, cQ2⟩ := CQ.out.cells3
      have ltQ := CQ.out.lt
      obtain ⟨cB0, cB1, cB2⟩ := CB.out.cells3
      have ltB := CB.out.lt
      obtain ⟨cM0, cM1, cM2⟩ := CM.out.cells3
      have ltM := CM.out.lt
      go_wp2_with fail
      refine (tTail_c _ ((m : Int) + 1) 0 _ (fr false γ δ) FQ.out).mono ?_
      rw [HM1.out]
      rintro e w7 ⟨v, rfl, hv, hb7⟩
      have hv : IsF _ v (Tq γ δ (m + 1) (0)) := hv
      obtain ⟨va, vb, rfl, h1, h2⟩ := hv
      obtain ⟨pM2, mM2, rfl, _, _⟩ := h1.shape
      obtain ⟨qM2, nM2, rfl, _, _⟩ := h2.shape
      have FM2 := Lib.hid (IsF.at_ h1 h2)
      clear h1 h2
      clear cP0 cP1 cP2 ltP cQ0 cQ1 cQ2 ltQ cB0 cB1 cB2 ltB cM0 cM1 cM2 ltM
      replace CP := Lib.hid (CP.out.after hb7)
      replace CQ := Lib.hid (CQ.out.after hb7)
      replace CB := Lib.hid (CB.out.after hb7)
      replace CM := Lib.hid (CM.out.after hb7)
      replace FP := Lib.hid (FP.out.after hb7)
      replace FQ := Lib.hid (FQ.out.after hb7)
      replace FB := Lib.hid (FB.out.after hb7)
      replace FM := Lib.hid (FM.out.after hb7)
      replace HB := Lib.hid (HB.out.trans (hb7.mono HB.out.size))
      clear hb7
      obtain ⟨cP0, cP1, cP2⟩ := CP.out.cells3
      have ltP := CP.out.lt
      obtain ⟨cQ0, cQ1, cQ2⟩ := CQ.out.cells3
      have ltQ := CQ.out.lt
      obtain ⟨cB0, cB1, cB2⟩ := CB.out.cells3
      have ltB := CB.out.lt
      obtain ⟨cM0, cM1, cM2⟩ := CM.out.cells3
      have ltM := CM.out.lt
      have zM0 := CM.out.frozen 0
      have zM1 := CM.out.frozen 1
      have zM2 := CM.out.frozen 2
      go_wp2_with fail
      refine (Cmp_c _ _ _ _ _ (FB.out.set3 CM.out (fun _ h => by cases h) (fun _ h => by cases h) (fun _ h => by cases h) _ _ _) (FM2.out.set3 CM.out (fun _ h => by cases h) (fun _ h => by cases h) (fun _ h => by cases h) _ _ _)).mono ?_
      rw [HC1.out]
      rintro e w8 ⟨rfl, hb8⟩
      clear cP0 cP1 cP2 ltP cQ0 cQ1 cQ2 ltQ cB0 cB1 cB2 ltB cM0 cM1 cM2 ltM zM0 zM1 zM2
      obtain ⟨KB, KS, KW, NC⟩ := after_set CM.out (fun _ h => by cases h) (fun _ h => by cases h) (fun _ h => by cases h) hb8
      replace CP := Lib.hid (KB _ _ _ (by omega) CP.out)
      replace CQ := Lib.hid (KB _ _ _ (by omega) CQ.out)
      replace CB := Lib.hid (KB _ _ _ (by omega) CB.out)
      replace CM := Lib.hid NC
      replace FP := Lib.hid (FP.out.via KS)
      replace FQ := Lib.hid (FQ.out.via KS)
      replace FB := Lib.hid (FB.out.via KS)
      replace FM := Lib.hid (FM.out.via KS)
      replace FM2 := Lib.hid (FM2.out.via KS)
      replace HB := Lib.hid (KW _ _ HB.out (by omega))
      clear KB KS KW NC hb8
      obtain ⟨cP0, cP1, cP2⟩ := CP.out.cells3
      have ltP := CP.out.lt
      obtain ⟨cQ0, cQ1, cQ2⟩ := CQ.out.cells3
      have ltQ := CQ.out.lt
      obtain ⟨cB0, cB1, cB2⟩ := CB.out.cells3
      have ltB := CB.out.lt
      obtain ⟨cM0, cM1, cM2⟩ := CM.out.cells3
      have ltM := CM.out.lt
      go_wp2_with fail
      refine (works_c _).mono ?_
      rintro e w9 ⟨rfl, hb9⟩
      clear cP0 cP1 cP2 ltP cQ0 cQ1 cQ2 ltQ cB0 cB1 cB2 ltB cM0 cM1 cM2 ltM
      replace CP := Lib.hid (CP.out.after hb9)
      replace CQ := Lib.hid (CQ.out.after hb9)
      replace CB := Lib.hid (CB.out.after hb9)
      replace CM := Lib.hid (CM.out.after hb9)
      replace FP := Lib.hid (FP.out.after hb9)
      replace FQ := Lib.hid (FQ.out.after hb9)
      replace FB := Lib.hid (FB.out.after hb9)
      replace FM := Lib.hid (FM.out.after hb9)
      replace FM2 := Lib.hid (FM2.out.after hb9)
      replace HB := Lib.hid (HB.out.trans (hb9.mono HB.out.size))
      clear hb9
      go_wp2_with fail
      go_ret
      exact ⟨rfl, HB.out⟩
    · have HB0 : Hid (tailF (m : Int) ((i : Int) + 1) (fr false γ δ) = (Tq γ δ m (i + 1), 0)) := (tailF_q (m := m) (k := (i + 1)) hok' hab' hb1000' (by omega) him).1
      have HM0 : Hid (tailF (m : Int) ((i : Int) + 1) (fr false α β) = (Tq α β m (i + 1), 0)) := (tailF_q (m := m) (k := (i + 1)) hok hab hb1000 (by omega) him).1
      have HM1 : Hid (tailF ((m : Int) + 1) ((i : Int) + 1) (fr false γ δ) = (Tq γ δ (m + 1) (i + 1), 0)) := (tailF_q (m := m + 1) (k := (i + 1)) hok' hab' hb1000' (by omega) (by omega)).1
      have rB := (tailF_q (m := m) (k := (i + 1)) hok' hab' hb1000' (by omega) him).2
      have rM := (tailF_q (m := m) (k := (i + 1)) hok hab hb1000 (by omega) him).2
      have rM1 := (tailF_q (m := m + 1) (k := (i + 1)) hok' hab' hb1000' (by omega) (by omega)).2
      obtain ⟨c0, hc0⟩ : ∃ c0, (cmpF (Tq γ δ m (i + 1)) (Tq α β m (i + 1))).1 = c0 := ⟨_, rfl⟩
      have hl0 : c0 ≤ 0 := by rw [← hc0]; exact Tq_rate rB rM hok' hok hab' hab hle
      have HC0 : Hid (cmpF (Tq γ δ m (i + 1)) (Tq α β m (i + 1)) = (c0, 0)) := by show _ = _; rw [← hc0]; exact cmpF_err rB rM
      obtain ⟨c1, hc1⟩ : ∃ c1, (cmpF (Tq γ δ m (i + 1)) (Tq γ δ (m + 1) (i + 1))).1 = c1 := ⟨_, rfl⟩
      have hl1 : c1 ≤ 0 := by rw [← hc1]; exact Tq_more rB rM1 hab'
      have HC1 : Hid (cmpF (Tq γ δ m (i + 1)) (Tq γ δ (m + 1) (i + 1)) = (c1, 0)) := by show _ = _; rw [← hc1]; exact cmpF_err rB rM1
      have HM2 : Hid (tailF (m : Int) (i : Int) (fr false γ δ) = (Tq γ δ m i, 0)) := (tailF_q hok' hab' hb1000' (by omega) (by omega)).1
      have rM2 := (tailF_q (m := m) (k := i) hok' hab' hb1000' (by omega) (by omega)).2
      obtain ⟨c2, hc2⟩ : ∃ c2, (cmpF (Tq γ δ m (i + 1)) (Tq γ δ m i)).1 = c2 := ⟨_, rfl⟩
      have hl2 : c2 ≤ 0 := by rw [← hc2]; exact Tq_less rB rM2
      have HC2 : Hid (cmpF (Tq γ δ m (i + 1)) (Tq γ δ m i) = (c2, 0)) := by show _ = _; rw [← hc2]; exact cmpF_err rB rM2
      clear rM2 hc2
      clear rB rM rM1 hc0 hc1 hs hle
      have hiv : (k : Int) % ((m : Int) + 2) = (i : Int) + 1 := by rw [hi]; push_cast; rfl
      have hi0 : (0 : Int) ≤ (i : Int) := Int.natCast_nonneg _
      clear hi
      go_enter Try.func6, Try.ntmps6
      go_wp2_with fail
      refine (lrate_c _ a b ha hb).mono ?_
      rw [HP.out]
      rintro e w1 ⟨v, rfl, hv, hb1⟩
      have hv : IsF _ v (fr false α β) := hv
      obtain ⟨va, vb, rfl, h1, h2⟩ := hv
      obtain ⟨pP, mP, rfl, _, _⟩ := h1.shape
      obtain ⟨qP, nP, rfl, _, _⟩ := h2.shape
      have FP := Lib.hid (IsF.at_ h1 h2)
      clear h1 h2
      replace HB := Lib.hid (HB.out.trans (hb1.mono HB.out.size))
      clear hb1
      go_wp2_with fail
      refine (lrate_c _ c d hc hd).mono ?_
      rw [HQ.out]
      rintro e w2 ⟨v, rfl, hv, hb2⟩
      have hv : IsF _ v (fr false γ δ) := hv
      obtain ⟨va, vb, rfl, h1, h2⟩ := hv
      obtain ⟨pQ, mQ, rfl, _, _⟩ := h1.shape
      obtain ⟨qQ, nQ, rfl, _, _⟩ := h2.shape
      have FQ := Lib.hid (IsF.at_ h1 h2)
      clear h1 h2
      replace FP := Lib.hid (FP.out.after hb2)
      replace HB := Lib.hid (HB.out.trans (hb2.mono HB.out.size))
      clear hb2
      have g_P : w.heap.size ≤ w2.heap.size := by have := HB.out.size; omega
      have d_P_Q : w2.heap.size < w2.heap.size + 1 := by omega
      have g_Q : w.heap.size ≤ w2.heap.size + 1 := by have := HB.out.size; omega
      go_wp2_with fail
      refine (Cmp_c _ _ _ (fr false α β) (fr false γ δ) ((FP.out.alloc _).alloc _) ((FQ.out.alloc _).alloc _)).mono ?_
      rw [HS.out]
      rintro e w3 ⟨rfl, hb3⟩
      obtain ⟨hb3, CP, CQ⟩ := after_new2 hb3
      replace CP := Lib.hid CP
      replace CQ := Lib.hid CQ
      replace FP := Lib.hid (FP.out.after hb3)
      replace FQ := Lib.hid (FQ.out.after hb3)
      replace HB := Lib.hid (HB.out.trans (hb3.mono HB.out.size))
      clear hb3
      obtain ⟨cP0, cP1, cP2⟩ := CP.out.cells3
      have ltP := CP.out.lt
      have zP0 := CP.out.frozen 0
      have zP1 := CP.out.frozen 1
      have zP2 := CP.out.frozen 2
      obtain ⟨cQ0, cQ1, cQ2⟩ := CQ.out.cells3
      have ltQ := CQ.out.lt
      have zQ0 := CQ.out.frozen 0
      have zQ1 := CQ.out.frozen 1
      have zQ2 := CQ.out.frozen 2
      go_wp2_with fail
      clear cP0 cP1 cP2 ltP zP0 zP1 zP2 cQ0 cQ1 cQ2 ltQ zQ0 zQ1 zQ2
      obtain ⟨wa, hw⟩ : ∃ wa, wa = ((w3.setCell ⟨w2.heap.size, 0, none⟩ (.bool (fr false γ δ).neg)).setCell ⟨w2.heap.size, 1, none⟩ (.slice pQ (fr false γ δ).num.length mQ)).setCell ⟨w2.heap.size, 2, none⟩ (.slice qQ (fr false γ δ).den.length nQ) := ⟨_, rfl⟩
      have hb := below_same hw
      rw [← hw]
      clear hw
      obtain ⟨KB, KS, KW, NC⟩ := after_set CP.out (fun _ h => by cases h) (fun _ h => by cases h) (fun _ h => by cases h) hb
      replace CQ := Lib.hid (KB _ _ _ (by omega) CQ.out)
      replace CP := Lib.hid NC
      replace FP := Lib.hid (FP.out.via KS)
      replace FQ := Lib.hid (FQ.out.via KS)
      replace HB := Lib.hid (KW _ _ HB.out (by omega))
      clear KB KS KW NC hb
      obtain ⟨wb, hw⟩ : ∃ wb, wb = ((wa.setCell ⟨w2.heap.size + 1, 0, none⟩ (.bool (fr false α β).neg)).setCell ⟨w2.heap.size + 1, 1, none⟩ (.slice pP (fr false α β).num.length mP)).setCell ⟨w2.heap.size + 1, 2, none⟩ (.slice qP (fr false α β).den.length nP) := ⟨_, rfl⟩
      have hb := below_same hw
      rw [← hw]
      clear hw
      obtain ⟨KB, KS, KW, NC⟩ := after_set CQ.out (fun _ h => by cases h) (fun _ h => by cases h) (fun _ h => by cases h) hb
      replace CP := Lib.hid (KB _ _ _ (by omega) CP.out)
      replace CQ := Lib.hid NC
      replace FP := Lib.hid (FP.out.via KS)
      replace FQ := Lib.hid (FQ.out.via KS)
      replace HB := Lib.hid (KW _ _ HB.out (by omega))
      clear KB KS KW NC hb
      refine (tTail_c _ m ((i : Int) + 1) _ (fr false γ δ) FQ.out).mono ?_
      rw [HB0.out]
      rintro e w4 ⟨v, rfl, hv, hb4⟩
      have hv : IsF _ v (Tq γ δ (m) (i + 1)) := hv
      obtain ⟨va, vb, rfl, h1, h2⟩ := hv
      obtain ⟨pB, mB, rfl, _, _⟩ := h1.shape
      obtain ⟨qB, nB, rfl, _, _⟩ := h2.shape
      have FB := Lib.hid (IsF.at_ h1 h2)
      clear h1 h2
      replace CP := Lib.hid (CP.out.after hb4)
      replace CQ := Lib.hid (CQ.out.after hb4)
      replace FP := Lib.hid (FP.out.after hb4)
      replace FQ := Lib.hid (FQ.out.after hb4)
      replace HB := Lib.hid (HB.out.trans (hb4.mono HB.out.size))
      clear hb4
      have d_P_B : w2.heap.size < w4.heap.size := CP.out.lt
      have d_Q_B : w2.heap.size + 1 < w4.heap.size := CQ.out.lt
      have g_B : w.heap.size ≤ w4.heap.size := by have := HB.out.size; omega
      obtain ⟨cP0, cP1, cP2⟩ := CP.out.cells3
      have ltP := CP.out.lt
      obtain ⟨cQ0, cQ1, cQ2⟩ := CQ.out.cells3
      have ltQ := CQ.out.lt
      go_wp2_with fail
      refine (tTail_c _ m ((i : Int) + 1) _ (fr false α β) (FP.out.alloc _)).mono ?_
      rw [HM0.out]
      rintro e w5 ⟨v, rfl, hv, hb5⟩
      have hv : IsF _ v (Tq α β (m) (i + 1)) := hv
      obtain ⟨va, vb, rfl, h1, h2⟩ := hv
      obtain ⟨pM, mM, rfl, _, _⟩ := h1.shape
      obtain ⟨qM, nM, rfl, _, _⟩ := h2.shape
      have FM := Lib.hid (IsF.at_ h1 h2)
      clear h1 h2
      clear cP0 cP1 cP2 ltP cQ0 cQ1 cQ2 ltQ
      obtain ⟨hb5, CB⟩ := after_new hb5
      replace CB := Lib.hid CB
      replace CP := Lib.hid (CP.out.after hb5)
      replace CQ := Lib.hid (CQ.out.after hb5)
      replace FP := Lib.hid (FP.out.after hb5)
      replace FQ := Lib.hid (FQ.out.after hb5)
      replace FB := Lib.hid (FB.out.after hb5)
      replace HB := Lib.hid (HB.out.trans (hb5.mono HB.out.size))
      clear hb5
      have d_P_M : w2.heap.size < w5.heap.size := CP.out.lt
      have d_Q_M : w2.heap.size + 1 < w5.heap.size := CQ.out.lt
      have d_B_M : w4.heap.size < w5.heap.size := CB.out.lt
      have g_M : w.heap.size ≤ w5.heap.size := by have := HB.out.size; omega
      obtain ⟨cP0, cP1, cP2⟩ := CP.out.cells3
      have ltP := CP.out.lt
      obtain ⟨cQ0, cQ1, cQ2⟩ := CQ.out.cells3
      have ltQ := CQ.out.lt
      obtain ⟨cB0, cB1, cB2⟩ := CB.out.cells3
      have ltB := CB.out.lt
      go_wp2_with fail
      refine (Cmp_c _ _ _ _ _ (FB.out.alloc _) (FM.out.alloc _)).mono ?_
      rw [HC0.out]
      rintro e w6 ⟨rfl, hb6⟩
      clear cP0 cP1 cP2 ltP cQ0 cQ1 cQ2 ltQ cB0 cB1 cB2 ltB
      obtain ⟨hb6, CM⟩ := after_new hb6
      replace CM := Lib.hid CM
      replace CP := Lib.hid (CP.out.after hb6)
      replace CQ := Lib.hid (CQ.out.after hb6)
      replace CB := Lib.hid (CB.out.after hb6)
      replace FP := Lib.hid (FP.out.after hb6)
      replace FQ := Lib.hid (FQ.out.after hb6)
      replace FB := Lib.hid (FB.out.after hb6)
      replace FM := Lib.hid (FM.out.after hb6)
      replace HB := Lib.hid (HB.out.trans (hb6.mono HB.out.size))
      clear hb6
      obtain ⟨cP0, cP1, cP2⟩ := CP.out.cells3
      have ltP := CP.out.lt
      obtain ⟨cQ0, cQ1, cQ2⟩ := CQ.out.cells3
      have ltQ := CQ.out.lt
      obtain ⟨cB0, cB1, cB2⟩ := CB.out.cells3
      have ltB := CB.out.lt
      obtain ⟨cM0, cM1, cM2⟩ := CM.out.cells3
      have ltM := CM.out.lt
      go_wp2_with fail
      refine (tTail_c _ ((m : Int) + 1) ((i : Int) + 1) _ (fr false γ δ) FQ.out).mono ?_
      rw [HM1.out]
      rintro e w7 ⟨v, rfl, hv, hb7⟩
      have hv : IsF _ v (Tq γ δ (m + 1) (i + 1)) := hv
      obtain ⟨va, vb, rfl, h1, h2⟩ := hv
      obtain ⟨pM2, mM2, rfl, _, _⟩ := h1.shape
      obtain ⟨qM2, nM2, rfl, _, _⟩ := h2.shape
      have FM2 := Lib.hid (IsF.at_ h1 h2)
      clear h1 h2
      clear cP0 cP1 cP2 ltP cQ0 cQ1 cQ2 ltQ cB0 cB1 cB2 ltB cM0 cM1 cM2 ltM
      replace CP := Lib.hid (CP.out.after hb7)
      replace CQ := Lib.hid (CQ.out.after hb7)
      replace CB := Lib.hid (CB.out.after hb7)
      replace CM := Lib.hid (CM.out.after hb7)
      replace FP := Lib.hid (FP.out.after hb7)
      replace FQ := Lib.hid (FQ.out.after hb7)
      replace FB := Lib.hid (FB.out.after hb7)
      replace FM := Lib.hid (FM.out.after hb7)
      replace HB := Lib.hid (HB.out.trans (hb7.mono HB.out.size))
      clear hb7
      obtain ⟨cP0, cP1, cP2⟩ := CP.out.cells3
      have ltP := CP.out.lt
      obtain ⟨cQ0, cQ1, cQ2⟩ := CQ.out.cells3
      have ltQ := CQ.out.lt
      obtain ⟨cB0, cB1, cB2⟩ := CB.out.cells3
      have ltB := CB.out.lt
      obtain ⟨cM0, cM1, cM2⟩ := CM.out.cells3
      have ltM := CM.out.lt
      have zM0 := CM.out.frozen 0
      have zM1 := CM.out.frozen 1
      have zM2 := CM.out.frozen 2
      go_wp2_with fail
      refine (Cmp_c _ _ _ _ _ (FB.out.set3 CM.out (fun _ h => by cases h) (fun _ h => by cases h) (fun _ h => by cases h) _ _ _) (FM2.out.set3 CM.out (fun _ h => by cases h) (fun _ h => by cases h) (fun _ h => by cases h) _ _ _)).mono ?_
      rw [HC1.out]
      rintro e w8 ⟨rfl, hb8⟩
      clear cP0 cP1 cP2 ltP cQ0 cQ1 cQ2 ltQ cB0 cB1 cB2 ltB cM0 cM1 cM2 ltM zM0 zM1 zM2
      obtain ⟨KB, KS, KW, NC⟩ := after_set CM.out (fun _ h => by cases h) (fun _ h => by cases h) (fun _ h => by cases h) hb8
      replace CP := Lib.hid (KB _ _ _ (by omega) CP.out)
      replace CQ := Lib.hid (KB _ _ _ (by omega) CQ.out)
      replace CB := Lib.hid (KB _ _ _ (by omega) CB.out)
      replace CM := Lib.hid NC
      replace FP := Lib.hid (FP.out.via KS)
      replace FQ := Lib.hid (FQ.out.via KS)
      replace FB := Lib.hid (FB.out.via KS)
      replace FM := Lib.hid (FM.out.via KS)
      replace FM2 := Lib.hid (FM2.out.via KS)
      replace HB := Lib.hid (KW _ _ HB.out (by omega))
      clear KB KS KW NC hb8
      obtain ⟨cP0, cP1, cP2⟩ := CP.out.cells3
      have ltP := CP.out.lt
      obtain ⟨cQ0, cQ1, cQ2⟩ := CQ.out.cells3
      have ltQ := CQ.out.lt
      obtain ⟨cB0, cB1, cB2⟩ := CB.out.cells3
      have ltB := CB.out.lt
      obtain ⟨cM0, cM1, cM2⟩ := CM.out.cells3
      have ltM := CM.out.lt
      go_wp2_with fail
      refine (tTail_c _ m i _ (fr false γ δ) FQ.out).mono ?_
      rw [HM2.out]
      rintro e w9 ⟨v, rfl, hv, hb9⟩
      have hv : IsF _ v (Tq γ δ m i) := hv
      obtain ⟨va, vb, rfl, h1, h2⟩ := hv
      obtain ⟨pM3, mM3, rfl, _, _⟩ := h1.shape
      obtain ⟨qM3, nM3, rfl, _, _⟩ := h2.shape
      have FM3 := Lib.hid (IsF.at_ h1 h2)
      clear h1 h2
      clear cP0 cP1 cP2 ltP cQ0 cQ1 cQ2 ltQ cB0 cB1 cB2 ltB cM0 cM1 cM2 ltM
      replace CP := Lib.hid (CP.out.after hb9)
      replace CQ := Lib.hid (CQ.out.after hb9)
      replace CB := Lib.hid (CB.out.after hb9)
      replace CM := Lib.hid (CM.out.after hb9)
      replace FP := Lib.hid (FP.out.after hb9)
      replace FQ := Lib.hid (FQ.out.after hb9)
      replace FB := Lib.hid (FB.out.after hb9)
      replace FM := Lib.hid (FM.out.after hb9)
      replace FM2 := Lib.hid (FM2.out.after hb9)
      replace HB := Lib.hid (HB.out.trans (hb9.mono HB.out.size))
      clear hb9
      obtain ⟨cP0, cP1, cP2⟩ := CP.out.cells3
      have ltP := CP.out.lt
      obtain ⟨cQ0, cQ1, cQ2⟩ := CQ.out.cells3
      have ltQ := CQ.out.lt
      obtain ⟨cB0, cB1, cB2⟩ := CB.out.cells3
      have ltB := CB.out.lt
      obtain ⟨cM0, cM1, cM2⟩ := CM.out.cells3
      have ltM := CM.out.lt
      have zM0 := CM.out.frozen 0
      have zM1 := CM.out.frozen 1
      have zM2 := CM.out.frozen 2
      go_wp2_with fail
      refine (Cmp_c _ _ _ _ _ (FB.out.set3 CM.out (fun _ h => by cases h) (fun _ h => by cases h) (fun _ h => by cases h) _ _ _) (FM3.out.set3 CM.out (fun _ h => by cases h) (fun _ h => by cases h) (fun _ h => by cases h) _ _ _)).mono ?_
      rw [HC2.out]
      rintro e w10 ⟨rfl, hb10⟩
      clear cP0 cP1 cP2 ltP cQ0 cQ1 cQ2 ltQ cB0 cB1 cB2 ltB cM0 cM1 cM2 ltM zM0 zM1 zM2
      obtain ⟨KB, KS, KW, NC⟩ := after_set CM.out (fun _ h => by cases h) (fun _ h => by cases h) (fun _ h => by cases h) hb10
      replace CP := Lib.hid (KB _ _ _ (by omega) CP.out)
      replace CQ := Lib.hid (KB _ _ _ (by omega) CQ.out)
      replace CB := Lib.hid (KB _ _ _ (by omega) CB.out)
      replace CM := Lib.hid NC
      replace FP := Lib.hid (FP.out.via KS)
      replace FQ := Lib.hid (FQ.out.via KS)
      replace FB := Lib.hid (FB.out.via KS)
      replace FM := Lib.hid (FM.out.via KS)
      replace FM2 := Lib.hid (FM2.out.via KS)
      replace FM3 := Lib.hid (FM3.out.via KS)
      replace HB := Lib.hid (KW _ _ HB.out (by omega))
      clear KB KS KW NC hb10
      obtain ⟨cP0, cP1, cP2⟩ := CP.out.cells3
      have ltP := CP.out.lt
      obtain ⟨cQ0, cQ1, cQ2⟩ := CQ.out.cells3
      have ltQ := CQ.out.lt
      obtain ⟨cB0, cB1, cB2⟩ := CB.out.cells3
      have ltB := CB.out.lt
      obtain ⟨cM0, cM1, cM2⟩ := CM.out.cells3
      have ltM := CM.out.lt
      go_wp2_with fail
      refine (works_c _).mono ?_
      rintro e w11 ⟨rfl, hb11⟩
      clear cP0 cP1 cP2 ltP cQ0 cQ1 cQ2 ltQ cB0 cB1 cB2 ltB cM0 cM1 cM2 ltM
      replace CP := Lib.hid (CP.out.after hb11)
      replace CQ := Lib.hid (CQ.out.after hb11)
      replace CB := Lib.hid (CB.out.after hb11)
      replace CM := Lib.hid (CM.out.after hb11)
      replace FP := Lib.hid (FP.out.after hb11)
      replace FQ := Lib.hid (FQ.out.after hb11)
      replace FB := Lib.hid (FB.out.after hb11)
      replace FM := Lib.hid (FM.out.after hb11)
      replace FM2 := Lib.hid (FM2.out.after hb11)
      replace FM3 := Lib.hid (FM3.out.after hb11)
      replace HB := Lib.hid (HB.out.trans (hb11.mono HB.out.size))
      clear hb11
      go_wp2_with fail
      go_ret
      exact ⟨rfl, HB.out⟩
  · have hle : α * δ ≤ γ * β := cmpF_le hok hok' hs hle0
    rcases i with _ | i
    · have HB0 : Hid (tailF (m : Int) (0 : Int) (fr false α β) = (Tq α β m 0, 0)) := (tailF_q (m := m) (k := 0) hok hab hb1000 (by omega) him).1
      have HM0 : Hid (tailF (m : Int) (0 : Int) (fr false γ δ) = (Tq γ δ m 0, 0)) := (tailF_q (m := m) (k := 0) hok' hab' hb1000' (by omega) him).1
      have HM1 : Hid (tailF ((m : Int) + 1) (0 : Int) (fr false α β) = (Tq α β (m + 1) 0, 0)) := (tailF_q (m := m + 1) (k := 0) hok hab hb1000 (by omega) (by omega)).1
      have rB := (tailF_q (m := m) (k := 0) hok hab hb1000 (by omega) him).2
      have rM := (tailF_q (m := m) (k := 0) hok' hab' hb1000' (by omega) him).2
      have rM1 := (tailF_q (m := m + 1) (k := 0) hok hab hb1000 (by omega) (by omega)).2
      obtain ⟨c0, hc0⟩ : ∃ c0, (cmpF (Tq α β m 0) (Tq γ δ m 0)).1 = c0 := ⟨_, rfl⟩
      have hl0 : c0 ≤ 0 := by rw [← hc0]; exact Tq_rate rB rM hok hok' hab hab' hle
      have HC0 : Hid (cmpF (Tq α β m 0) (Tq γ δ m 0) = (c0, 0)) := by show _ = _; rw [← hc0]; exact cmpF_err rB rM
      obtain ⟨c1, hc1⟩ : ∃ c1, (cmpF (Tq α β m 0) (Tq α β (m + 1) 0)).1 = c1 := ⟨_, rfl⟩
      have hl1 : c1 ≤ 0 := by rw [← hc1]; exact Tq_more rB rM1 hab
      have HC1 : Hid (cmpF (Tq α β m 0) (Tq α β (m + 1) 0) = (c1, 0)) := by show _ = _; rw [← hc1]; exact cmpF_err rB rM1
      have hiv : (k : Int) % ((m : Int) + 2) = 0 := hi
      clear hi
      clear rB rM rM1 hc0 hc1 hs hle
      go_enter Try.func6, Try.ntmps6
      go_wp2_with fail
      refine (lrate_c _ a b ha hb).mono ?_
      rw [HP.out]
      rintro e w1 ⟨v, rfl, hv, hb1⟩
      have hv : IsF _ v (fr false α β) := hv
      obtain ⟨va, vb, rfl, h1, h2⟩ := hv
      obtain ⟨pP, mP, rfl, _, _⟩ := h1.shape
      obtain ⟨qP, nP, rfl, _, _⟩ := h2.shape
      have FP := Lib.hid (IsF.at_ h1 h2)
      clear h1 h2
      replace HB := Lib.hid (HB.out.trans (hb1.mono HB.out.size))
      clear hb1
      go_wp2_with fail
      refine (lrate_c _ c d hc hd).mono ?_
      rw [HQ.out]
      rintro e w2 ⟨v, rfl, hv, hb2⟩
      have hv : IsF _ v (fr false γ δ) := hv
      obtain ⟨va, vb, rfl, h1, h2⟩ := hv
      obtain ⟨pQ, mQ, rfl, _, _⟩ := h1.shape
      obtain ⟨qQ, nQ, rfl, _, _⟩ := h2.shape
      have FQ := Lib.hid (IsF.at_ h1 h2)
      clear h1 h2
      replace FP := Lib.hid (FP.out.after hb2)
      replace HB := Lib.hid (HB.out.trans (hb2.mono HB.out.size))
      clear hb2
      have g_P : w.heap.size ≤ w2.heap.size := by have := HB.out.size; omega
      have d_P_Q : w2.heap.size < w2.heap.size + 1 := by omega
      have g_Q : w.heap.size ≤ w2.heap.size + 1 := by have := HB.out.size; omega
      go_wp2_with fail
      refine (Cmp_c _ _ _ (fr false α β) (fr false γ δ) ((FP.out.alloc _).alloc _) ((FQ.out.alloc _).alloc _)).mono ?_
      rw [HS.out]
      rintro e w3 ⟨rfl, hb3⟩
      obtain ⟨hb3, CP, CQ⟩ := after_new2 hb3
      replace CP := Lib.hid CP
      replace CQ := Lib.hid CQ
      replace FP := Lib.hid (FP.out.after hb3)
      replace FQ := Lib.hid (FQ.out.after hb3)
      replace HB := Lib.hid (HB.out.trans (hb3.mono HB.out.size))
      clear hb3
      obtain ⟨cP0, cP1, cP2⟩ := CP.out.cells3
      have ltP := CP.out.lt
      obtain ⟨cQ0, cQ1, cQ2⟩ := CQ.out.cells3
      have ltQ := CQ.out.lt
      go_wp2_with fail
      refine (tTail_c _ m 0 _ (fr false α β) FP.out).mono ?_
      rw [HB0.out]
      rintro e w4 ⟨v, rfl, hv, hb4⟩
      have hv : IsF _ v (Tq α β (m) (0)) := hv
      obtain ⟨va, vb, rfl, h1, h2⟩ := hv
      obtain ⟨pB, mB, rfl, _, _⟩ := h1.shape
      obtain ⟨qB, nB, rfl, _, _⟩ := h2.shape
      have FB := Lib.hid (IsF.at_ h1 h2)
      clear h1 h2
      clear cP0 cP1 cP2 ltP cQ0 cQ1 cQ2 ltQ
      replace CP := Lib.hid (CP.out.after hb4)
      replace CQ := Lib.hid (CQ.out.after hb4)
      replace FP := Lib.hid (FP.out.after hb4)
      replace FQ := Lib.hid (FQ.out.after hb4)
      replace HB := Lib.hid (HB.out.trans (hb4.mono HB.out.size))
      clear hb4
      have d_P_B : w2.heap.size < w4.heap.size := CP.out.lt
      have d_Q_B : w2.heap.size + 1 < w4.heap.size := CQ.out.lt
      have g_B : w.heap.size ≤ w4.heap.size := by have := HB.out.size; omega
      obtain ⟨cP0, cP1, cP2⟩ := CP.out.cells3
      have ltP := CP.out.lt
      obtain ⟨cQ0, cQ1, cQ2⟩ := CQ.out.cells3
      have ltQ := CQ.out.lt
      go_wp2_with fail
      refine (tTail_c _ m 0 _ (fr false γ δ) (FQ.out.alloc _)).mono ?_
      rw [HM0.out]
      rintro e w5 ⟨v, rfl, hv, hb5⟩
      have hv : IsF _ v (Tq γ δ (m) (0)) := hv
      obtain ⟨va, vb, rfl, h1, h2⟩ := hv
      obtain ⟨pM, mM, rfl, _, _⟩ := h1.shape
      obtain ⟨qM, nM, rfl, _, _⟩ := h2.shape
      have FM := Lib.hid (IsF.at_ h1 h2)
      clear h1 h2
      clear cP0 cP1 cP2 ltP cQ0 cQ1 cQ2 ltQ
      obtain ⟨hb5, CB⟩ := after_new hb5
      replace CB := Lib.hid CB
      replace CP := Lib.hid (CP.out.after hb5)
      replace CQ := Lib.hid (CQ.out.after hb5)
      replace FP := Lib.hid (FP.out.after hb5)
      replace FQ := Lib.hid (FQ.out.after hb5)
      replace FB := Lib.hid (FB.out.after hb5)
      replace HB := Lib.hid (HB.out.trans (hb5.mono HB.out.size))
      clear hb5
      have d_P_M : w2.heap.size < w5.heap.size := CP.out.lt
      have d_Q_M : w2.heap.size + 1 < w5.heap.size := CQ.out.lt
      have d_B_M : w4.heap.size < w5.heap.size := CB.out.lt
      have g_M : w.heap.size ≤ w5.heap.size := by have := HB.out.size; omega
      obtain ⟨cP0, cP1, cP2⟩ := CP.out.cells3
      have ltP := CP.out.lt
      obtain ⟨cQ0, cQ1, cQ2⟩ := CQ.out.cells3
      have ltQ := CQ.out.lt
      obtain ⟨cB0, cB1, cB2⟩ := CB.out.cells3
      have ltB := CB.out.lt
      go_wp2_with fail
      refine (Cmp_c _ _ _ _ _ (FB.out.alloc _) (FM.out.alloc _)).mono ?_
      rw [HC0.out]
      rintro e w6 ⟨rfl, hb6⟩
      clear cP0 cP1 cP2 ltP cQ0 cQ1 cQ2 ltQ cB0 cB1 cB2 ltB
      obtain ⟨hb6, CM⟩ := after_new hb6
      replace CM := Lib.hid CM
      replace CP := Lib.hid (CP.out.after hb6)
      replace CQ := Lib.hid (CQ.out.after hb6)
      replace CB := Lib.hid (CB.out.after hb6)
      replace FP := Lib.hid (FP.out.after hb6)
      replace FQ := Lib.hid (FQ.out.after hb6)
      replace FB := Lib.hid (FB.out.after hb6)
      replace FM := Lib.hid (FM.out.after hb6)
      replace HB := Lib.hid (HB.out.trans (hb6.mono HB.out.size))
      clear hb6
      obtain ⟨cP0, cP1, cP2⟩ := CP.out.cells3
      have ltP := CP.out.lt
      obtain ⟨cQ0, cQ1, cQ2⟩ := CQ.out.cells3
      have ltQ := CQ.out.lt
      obtain ⟨cB0, cB1, cB2⟩ := CB.out.cells3
      have ltB := CB.out.lt
      obtain ⟨cM0, cM1, cM2⟩ := CM.out.cells3
      have ltM := CM.out.lt
      go_wp2_with fail
      refine (tTail_c _ ((m : Int) + 1) 0 _ (fr false α β) FP.out).mono ?_
      rw [HM1.out]
      rintro e w7 ⟨v, rfl, hv, hb7⟩
      have hv : IsF _ v (Tq α β (m + 1) (0)) := hv
      obtain ⟨va, vb, rfl, h1, h2⟩ := hv
      obtain ⟨pM2, mM2, rfl, _, _⟩ := h1.shape
      obtain ⟨qM2, nM2, rfl, _, _⟩ := h2.shape
      have FM2 := Lib.hid (IsF.at_ h1 h2)
      clear h1 h2
      clear cP0 cP1 cP2 ltP cQ0 cQ1 cQ2 ltQ cB0 cB1 cB2 ltB cM0 cM1 cM2 ltM
      replace CP := Lib.hid (CP.out.after hb7)
      replace CQ := Lib.hid (CQ.out.after hb7)
      replace CB := Lib.hid (CB.out.after hb7)
      replace CM := Lib.hid (CM.out.after hb7)
      replace FP := Lib.hid (FP.out.after hb7)
      replace FQ := Lib.hid (FQ.out.after hb7)
      replace FB := Lib.hid (FB.out.after hb7)
      replace FM := Lib.hid (FM.out.after hb7)
      replace HB := Lib.hid (HB.out.trans (hb7.mono HB.out.size))
      clear hb7
      obtain ⟨cP0, cP1, cP2⟩ := CP.out.cells3
      have ltP := CP.out.lt
      obtain ⟨cQ0, cQ1, cQ2⟩ := CQ.out.cells3
      have ltQ := CQ.out.lt
      obtain ⟨cB0, cB1, cB2⟩ := CB.out.cells3
      have ltB := CB.out.lt
      obtain ⟨cM0, cM1, cM2⟩ := CM.out.cells3
      have ltM := CM.out.lt
      have zM0 := CM.out.frozen 0
      have zM1 := CM.out.frozen 1
      have zM2 := CM.out.frozen 2
      go_wp2_with fail
      refine (Cmp_c _ _ _ _ _ (FB.out.set3 CM.out (fun _ h => by cases h) (fun _ h => by cases h) (fun _ h => by cases h) _ _ _) (FM2.out.set3 CM.out (fun _ h => by cases h) (fun _ h => by cases h) (fun _ h => by cases h) _ _ _)).mono ?_
      rw [HC1.out]
      rintro e w8 ⟨rfl, hb8⟩
      clear cP0 cP1 cP2 ltP cQ0 cQ1 cQ2 ltQ cB0 cB1 cB2 ltB cM0 cM1 cM2 ltM zM0 zM1 zM2
      obtain ⟨KB, KS, KW, NC⟩ := after_set CM.out (fun _ h => by cases h) (fun _ h => by cases h) (fun _ h => by cases h) hb8
      replace CP := Lib.hid (KB _ _ _ (by omega) CP.out)
      replace CQ := Lib.hid (KB _ _ _ (by omega) CQ.out)
      replace CB := Lib.hid (KB _ _ _ (by omega) CB.out)
      replace CM := Lib.hid NC
      replace FP := Lib.hid (FP.out.via KS)
      replace FQ := Lib.hid (FQ.out.via KS)
      replace FB := Lib.hid (FB.out.via KS)
      replace FM := Lib.hid (FM.out.via KS)
      replace FM2 := Lib.hid (FM2.out.via KS)
      replace HB := Lib.hid (KW _ _ HB.out (by omega))
      clear KB KS KW NC hb8
      obtain ⟨cP0, cP1, cP2⟩ := CP.out.cells3
      have ltP := CP.out.lt
      obtain ⟨cQ0, cQ1, cQ2⟩ := CQ.out.cells3
      have ltQ := CQ.out.lt
      obtain ⟨cB0, cB1, cB2⟩ := CB.out.cells3
      have ltB := CB.out.lt
      obtain ⟨cM0, cM1, cM2⟩ := CM.out.cells3
      have ltM := CM.out.lt
      go_wp2_with fail
      refine (works_c _).mono ?_
      rintro e w9 ⟨rfl, hb9⟩
      clear cP0 cP1 cP2 ltP cQ0 cQ1 cQ2 ltQ cB0 cB1 cB2 ltB cM0 cM1 cM2 ltM
      replace CP := Lib.hid (CP.out.after hb9)
      replace CQ := Lib.hid (CQ.out.after hb9)
      replace CB := Lib.hid (CB.out.after hb9)
      replace CM := Lib.hid (CM.out.after hb9)
      replace FP := Lib.hid (FP.out.after hb9)
      replace FQ := Lib.hid (FQ.out.after hb9)
      replace FB := Lib.hid (FB.out.after hb9)
      replace FM := Lib.hid (FM.out.after hb9)
      replace FM2 := Lib.hid (FM2.out.after hb9)
      replace HB := Lib.hid (HB.out.trans (hb9.mono HB.out.size))
      clear hb9
      go_wp2_with fail
      go_ret
      exact ⟨rfl, HB.out⟩
    · have HB0 : Hid (tailF (m : Int) ((i : Int) + 1) (fr false α β) = (Tq α β m (i + 1), 0)) := (tailF_q (m := m) (k := (i + 1)) hok hab hb1000 (by omega) him).1
      have HM0 : Hid (tailF (m : Int) ((i : Int) + 1) (fr false γ δ) = (Tq γ δ m (i + 1), 0)) := (tailF_q (m := m) (k := (i + 1)) hok' hab' hb1000' (by omega) him).1
      have HM1 : Hid (tailF ((m : Int) + 1) ((i : Int) + 1) (fr false α β) = (Tq α β (m + 1) (i + 1), 0)) := (tailF_q (m := m + 1) (k := (i + 1)) hok hab hb1000 (by omega) (by omega)).1
      have rB := (tailF_q (m := m) (k := (i + 1)) hok hab hb1000 (by omega) him).2
      have rM := (tailF_q (m := m) (k := (i + 1)) hok' hab' hb1000' (by omega) him).2
      have rM1 := (tailF_q (m := m + 1) (k := (i + 1)) hok hab hb1000 (by omega) (by omega)).2
      obtain ⟨c0, hc0⟩ : ∃ c0, (cmpF (Tq α β m (i + 1)) (Tq γ δ m (i + 1))).1 = c0 := ⟨_, rfl⟩
      have hl0 : c0 ≤ 0 := by rw [← hc0]; exact Tq_rate rB rM hok hok' hab hab' hle
      have HC0 : Hid (cmpF (Tq α β m (i + 1)) (Tq γ δ m (i + 1)) = (c0, 0)) := by show _ = _; rw [← hc0]; exact cmpF_err rB rM
      obtain ⟨c1, hc1⟩ : ∃ c1, (cmpF (Tq α β m (i + 1)) (Tq α β (m + 1) (i + 1))).1 = c1 := ⟨_, rfl⟩
      have hl1 : c1 ≤ 0 := by rw [← hc1]; exact Tq_more rB rM1 hab
      have HC1 : Hid (cmpF (Tq α β m (i + 1)) (Tq α β (m + 1) (i + 1)) = (c1, 0)) := by show _ = _; rw [← hc1]; exact cmpF_err rB rM1
      have HM2 : Hid (tailF (m : Int) (i : Int) (fr false α β) = (Tq α β m i, 0)) := (tailF_q hok hab hb1000 (by omega) (by omega)).1
      have rM2 := (tailF_q (m := m) (k := i) hok hab hb1000 (by omega) (by omega)).2
      obtain ⟨c2, hc2⟩ : ∃ c2, (cmpF (Tq α β m (i + 1)) (Tq α β m i)).1 = c2 := ⟨_, rfl⟩
      have hl2 : c2 ≤ 0 := by rw [← hc2]; exact Tq_less rB rM2
      have HC2 : Hid (cmpF (Tq α β m (i + 1)) (Tq α β m i) = (c2, 0)) := by show _ = _; rw [← hc2]; exact cmpF_err rB rM2
      clear rM2 hc2
      clear rB rM rM1 hc0 hc1 hs hle
      have hiv : (k : Int) % ((m : Int) + 2) = (i : Int) + 1 := by rw [hi]; push_cast; rfl
      have hi0 : (0 : Int) ≤ (i : Int) := Int.natCast_nonneg _
      clear hi
      go_enter Try.func6, Try.ntmps6
      go_wp2_with fail
      refine (lrate_c _ a b ha hb).mono ?_
      rw [HP.out]
      rintro e w1 ⟨v, rfl, hv, hb1⟩
      have hv : IsF _ v (fr false α β) := hv
      obtain ⟨va, vb, rfl, h1, h2⟩ := hv
      obtain ⟨pP, mP, rfl, _, _⟩ := h1.shape
      obtain ⟨qP, nP, rfl, _, _⟩ := h2.shape
      have FP := Lib.hid (IsF.at_ h1 h2)
      clear h1 h2
      replace HB := Lib.hid (HB.out.trans (hb1.mono HB.out.size))
      clear hb1
      go_wp2_with fail
      refine (lrate_c _ c d hc hd).mono ?_
      rw [HQ.out]
      rintro e w2 ⟨v, rfl, hv, hb2⟩
      have hv : IsF _ v (fr false γ δ) := hv
      obtain ⟨va, vb, rfl, h1, h2⟩ := hv
      obtain ⟨pQ, mQ, rfl, _, _⟩ := h1.shape
      obtain ⟨qQ, nQ, rfl, _, _⟩ := h2.shape
      have FQ := Lib.hid (IsF.at_ h1 h2)
      clear h1 h2
      replace FP := Lib.hid (FP.out.after hb2)
      replace HB := Lib.hid (HB.out.trans (hb2.mono HB.out.size))
      clear hb2
      have g_P : w.heap.size ≤ w2.heap.size := by have := HB.out.size; omega
      have d_P_Q : w2.heap.size < w2.heap.size + 1 := by omega
      have g_Q : w.heap.size ≤ w2.heap.size + 1 := by have := HB.out.size; omega
      go_wp2_with fail
      refine (Cmp_c _ _ _ (fr false α β) (fr false γ δ) ((FP.out.alloc _).alloc _) ((FQ.out.alloc _).alloc _)).mono ?_
      rw [HS.out]
      rintro e w3 ⟨rfl, hb3⟩
      obtain ⟨hb3, CP, CQ⟩ := after_new2 hb3
      replace CP := Lib.hid CP
      replace CQ := Lib.hid CQ
      replace FP := Lib.hid (FP.out.after hb3)
      replace FQ := Lib.hid (FQ.out.after hb3)
      replace HB := Lib.hid (HB.out.trans (hb3.mono HB.out.size))
      clear hb3
      obtain ⟨cP0, cP1, cP2⟩ := CP.out.cells3
      have ltP := CP.out.lt
      obtain ⟨cQ0, cQ1, cQ2⟩ := CQ.out.cells3
      have ltQ := CQ.out.lt
      go_wp2_with fail
      refine (tTail_c _ m ((i : Int) + 1) _ (fr false α β) FP.out).mono ?_
      rw [HB0.out]
      rintro e w4 ⟨v, rfl, hv, hb4⟩
      have hv : IsF _ v (Tq α β (m) (i + 1)) := hv
      obtain ⟨va, vb, rfl, h1, h2⟩ := hv
      obtain ⟨pB, mB, rfl, _, _⟩ := h1.shape
      obtain ⟨qB, nB, rfl, _, _⟩ := h2.shape
      have FB := Lib.hid (IsF.at_ h1 h2)
      clear h1 h2
      clear cP0 cP1 cP2 ltP cQ0 cQ1 cQ2 ltQ
      replace CP := Lib.hid (CP.out.after hb4)
      replace CQ := Lib.hid (CQ.out.after hb4)
      replace FP := Lib.hid (FP.out.after hb4)
      replace FQ := Lib.hid (FQ.out.after hb4)
      replace HB := Lib.hid (HB.out.trans (hb4.mono HB.out.size))
      clear hb4
      have d_P_B : w2.heap.size < w4.heap.size := CP.out.lt
      have d_Q_B : w2.heap.size + 1 < w4.heap.size := CQ.out.lt
      have g_B : w.heap.size ≤ w4.heap.size := by have := HB.out.size; omega
      obtain ⟨cP0, cP1, cP2⟩ := CP.out.cells3
      have ltP := CP.out.lt
      obtain ⟨cQ0, cQ1, cQ2⟩ := CQ.out.cells3
      have ltQ := CQ.out.lt
      go_wp2_with fail
      refine (tTail_c _ m ((i : Int) + 1) _ (fr false γ δ) (FQ.out.alloc _)).mono ?_
      rw [HM0.out]
      rintro e w5 ⟨v, rfl, hv, hb5⟩
      have hv : IsF _ v (Tq γ δ (m) (i + 1)) := hv
      obtain ⟨va, vb, rfl, h1, h2⟩ := hv
      obtain ⟨pM, mM, rfl, _, _⟩ := h1.shape
      obtain ⟨qM, nM, rfl, _, _⟩ := h2.shape
      have FM := Lib.hid (IsF.at_ h1 h2)
      clear h1 h2
      clear cP0 cP1 cP2 ltP cQ0 cQ1 cQ2 ltQ
      obtain ⟨hb5, CB⟩ := after_new hb5
      replace CB := Lib.hid CB
      replace CP := Lib.hid (CP.out.after hb5)
      replace CQ := Lib.hid (CQ.out.after hb5)
      replace FP := Lib.hid (FP.out.after hb5)
      replace FQ := Lib.hid (FQ.out.after hb5)
      replace FB := Lib.hid (FB.out.after hb5)
      replace HB := Lib.hid (HB.out.trans (hb5.mono HB.out.size))
      clear hb5
      have d_P_M : w2.heap.size < w5.heap.size := CP.out.lt
      have d_Q_M : w2.heap.size + 1 < w5.heap.size := CQ.out.lt
      have d_B_M : w4.heap.size < w5.heap.size := CB.out.lt
      have g_M : w.heap.size ≤ w5.heap.size := by have := HB.out.size; omega
      obtain ⟨cP0, cP1, cP2⟩ := CP.out.cells3
      have ltP := CP.out.lt
      obtain ⟨cQ0, cQ1, cQ2⟩ := CQ.out.cells3
      have ltQ := CQ.out.lt
      obtain ⟨cB0, cB1, cB2⟩ := CB.out.cells3
      have ltB := CB.out.lt
      go_wp2_with fail
      refine (Cmp_c _ _ _ _ _ (FB.out.alloc _) (FM.out.alloc _)).mono ?_
      rw [HC0.out]
      rintro e w6 ⟨rfl, hb6⟩
      clear cP0 cP1 cP2 ltP cQ0 cQ1 cQ2 ltQ cB0 cB1 cB2 ltB
      obtain ⟨hb6, CM⟩ := after_new hb6
      replace CM := Lib.hid CM
      replace CP := Lib.hid (CP.out.after hb6)
      replace CQ := Lib.hid (CQ.out.after hb6)
      replace CB := Lib.hid (CB.out.after hb6)
      replace FP := Lib.hid (FP.out.after hb6)
      replace FQ := Lib.hid (FQ.out.after hb6)
      replace FB := Lib.hid (FB.out.after hb6)
      replace FM := Lib.hid (FM.out.after hb6)
      replace HB := Lib.hid (HB.out.trans (hb6.mono HB.out.size))
      clear hb6
      obtain ⟨cP0, cP1, cP2⟩ := CP.out.cells3
      have ltP := CP.out.lt
      obtain ⟨cQ0, cQ1, cQ2⟩ := CQ.out.cells3
      have ltQ := CQ.out.lt
      obtain ⟨cB0, cB1, cB2⟩ := CB.out.cells3
      have ltB := CB.out.lt
      obtain ⟨cM0, cM1, cM2⟩ := CM.out.cells3
      have ltM := CM.out.lt
      go_wp2_with fail
      refine (tTail_c _ ((m : Int) + 1) ((i : Int) + 1) _ (fr false α β) FP.out).mono ?_
      rw [HM1.out]
      rintro e w7 ⟨v, rfl, hv, hb7⟩
      have hv : IsF _ v (Tq α β (m + 1) (i + 1)) := hv
      obtain ⟨va, vb, rfl, h1, h2⟩ := hv
      obtain ⟨pM2, mM2, rfl, _, _⟩ := h1.shape
      obtain ⟨qM2, nM2, rfl, _, _⟩ := h2.shape
      have FM2 := Lib.hid (IsF.at_ h1 h2)
      clear h1 h2
      clear cP0 cP1 cP2 ltP cQ0 cQ1 cQ2 ltQ cB0 cB1 cB2 ltB cM0 cM1 cM2 ltM
      replace CP := Lib.hid (CP.out.after hb7)
      replace CQ := Lib.hid (CQ.out.after hb7)
      replace CB := Lib.hid (CB.out.after hb7)
      replace CM := Lib.hid (CM.out.after hb7)
      replace FP := Lib.hid (FP.out.after hb7)
      replace FQ := Lib.hid (FQ.out.after hb7)
      replace FB := Lib.hid (FB.out.after hb7)
      replace FM := Lib.hid (FM.out.after hb7)
      replace HB := Lib.hid (HB.out.trans (hb7.mono HB.out.size))
      clear hb7
      obtain ⟨cP0, cP1, cP2⟩ := CP.out.cells3
      have ltP := CP.out.lt
      obtain ⟨cQ0, cQ1, cQ2⟩ := CQ.out.cells3
      have ltQ := CQ.out.lt
      obtain ⟨cB0, cB1, cB2⟩ := CB.out.cells3
      have ltB := CB.out.lt
      obtain ⟨cM0, cM1, cM2⟩ := CM.out.cells3
      have ltM := CM.out.lt
      have zM0 := CM.out.frozen 0
      have zM1 := CM.out.frozen 1
      have zM2 := CM.out.frozen 2
      go_wp2_with fail
      refine (Cmp_c _ _ _ _ _ (FB.out.set3 CM.out (fun _ h => by cases h) (fun _ h => by cases h) (fun _ h => by cases h) _ _ _) (FM2.out.set3 CM.out (fun _ h => by cases h) (fun _ h => by cases h) (fun _ h => by cases h) _ _ _)).mono ?_
      rw [HC1.out]
      rintro e w8 ⟨rfl, hb8⟩
      clear cP0 cP1 cP2 ltP cQ0 cQ1 cQ2 ltQ cB0 cB1 cB2 ltB cM0 cM1 cM2 ltM zM0 zM1 zM2
      obtain ⟨KB, KS, KW, NC⟩ := after_set CM.out (fun _ h => by cases h) (fun _ h => by cases h) (fun _ h => by cases h) hb8
      replace CP := Lib.hid (KB _ _ _ (by omega) CP.out)
      replace CQ := Lib.hid (KB _ _ _ (by omega) CQ.out)
      replace CB := Lib.hid (KB _ _ _ (by omega) CB.out)
      replace CM := Lib.hid NC
      replace FP := Lib.hid (FP.out.via KS)
      replace FQ := Lib.hid (FQ.out.via KS)
      replace FB := Lib.hid (FB.out.via KS)
      replace FM := Lib.hid (FM.out.via KS)
      replace FM2 := Lib.hid (FM2.out.via KS)
      replace HB := Lib.hid (KW _ _ HB.out (by omega))
      clear KB KS KW NC hb8
      obtain ⟨cP0, cP1, cP2⟩ := CP.out.cells3
      have ltP := CP.out.lt
      obtain ⟨cQ0, cQ1, cQ2⟩ := CQ.out.cells3
      have ltQ := CQ.out.lt
      obtain ⟨cB0, cB1, cB2⟩ := CB.out.cells3
      have ltB := CB.out.lt
      obtain ⟨cM0, cM1, cM2⟩ := CM.out.cells3
      have ltM := CM.out.lt
      go_wp2_with fail
      refine (tTail_c _ m i _ (fr false α β) FP.out).mono ?_
      rw [HM2.out]
      rintro e w9 ⟨v, rfl, hv, hb9⟩
      have hv : IsF _ v (Tq α β m i) := hv
      obtain ⟨va, vb, rfl, h1, h2⟩ := hv
      obtain ⟨pM3, mM3, rfl, _, _⟩ := h1.shape
      obtain ⟨qM3, nM3, rfl, _, _⟩ := h2.shape
      have FM3 := Lib.hid (IsF.at_ h1 h2)
      clear h1 h2
      clear cP0 cP1 cP2 ltP cQ0 cQ1 cQ2 ltQ cB0 cB1 cB2 ltB cM0 cM1 cM2 ltM
      replace CP := Lib.hid (CP.out.after hb9)
      replace CQ := Lib.hid (CQ.out.after hb9)
      replace CB := Lib.hid (CB.out.after hb9)
      replace CM := Lib.hid (CM.out.after hb9)
      replace FP := Lib.hid (FP.out.after hb9)
      replace FQ := Lib.hid (FQ.out.after hb9)
      replace FB := Lib.hid (FB.out.after hb9)
      replace FM := Lib.hid (FM.out.after hb9)
      replace FM2 := Lib.hid (FM2.out.after hb9)
      replace HB := Lib.hid (HB.out.trans (hb9.mono HB.out.size))
      clear hb9
      obtain ⟨cP0, cP1, cP2⟩ := CP.out.cells3
      have ltP := CP.out.lt
      obtain ⟨cQ0, cQ1, cQ2⟩ := CQ.out.cells3
      have ltQ := CQ.out.lt
      obtain ⟨cB0, cB1, cB2⟩ := CB.out.cells3
      have ltB := CB.out.lt
      obtain ⟨cM0, cM1, cM2⟩ := CM.out.cells3
      have ltM := CM.out.lt
      have zM0 := CM.out.frozen 0
      have zM1 := CM.out.frozen 1
      have zM2 := CM.out.frozen 2
      go_wp2_with fail
      refine (Cmp_c _ _ _ _ _ (FB.out.set3 CM.out (fun _ h => by cases h) (fun _ h => by cases h) (fun _ h => by cases h) _ _ _) (FM3.out.set3 CM.out (fun _ h => by cases h) (fun _ h => by cases h) (fun _ h => by cases h) _ _ _)).mono ?_
      rw [HC2.out]
      rintro e w10 ⟨rfl, hb10⟩
      clear cP0 cP1 cP2 ltP cQ0 cQ1 cQ2 ltQ cB0 cB1 cB2 ltB cM0 cM1 cM2 ltM zM0 zM1 zM2
      obtain ⟨KB, KS, KW, NC⟩ := after_set CM.out (fun _ h => by cases h) (fun _ h => by cases h) (fun _ h => by cases h) hb10
      replace CP := Lib.hid (KB _ _ _ (by omega) CP.out)
      replace CQ := Lib.hid (KB _ _ _ (by omega) CQ.out)
      replace CB := Lib.hid (KB _ _ _ (by omega) CB.out)
      replace CM := Lib.hid NC
      replace FP := Lib.hid (FP.out.via KS)
      replace FQ := Lib.hid (FQ.out.via KS)
      replace FB := Lib.hid (FB.out.via KS)
      replace FM := Lib.hid (FM.out.via KS)
      replace FM2 := Lib.hid (FM2.out.via KS)
      replace FM3 := Lib.hid (FM3.out.via KS)
      replace HB := Lib.hid (KW _ _ HB.out (by omega))
      clear KB KS KW NC hb10
      obtain ⟨cP0, cP1, cP2⟩ := CP.out.cells3
      have ltP := CP.out.lt
      obtain ⟨cQ0, cQ1, cQ2⟩ := CQ.out.cells3
      have ltQ := CQ.out.lt
      obtain ⟨cB0, cB1, cB2⟩ := CB.out.cells3
      have ltB := CB.out.lt
      obtain ⟨cM0, cM1, cM2⟩ := CM.out.cells3
      have ltM := CM.out.lt
      go_wp2_with fail
      refine (works_c _).mono ?_
      rintro e w11 ⟨rfl, hb11⟩
      clear cP0 cP1 cP2 ltP cQ0 cQ1 cQ2 ltQ cB0 cB1 cB2 ltB cM0 cM1 cM2 ltM
      replace CP := Lib.hid (CP.out.after hb11)
      replace CQ := Lib.hid (CQ.out.after hb11)
      replace CB := Lib.hid (CB.out.after hb11)
      replace CM := Lib.hid (CM.out.after hb11)
      replace FP := Lib.hid (FP.out.after hb11)
      replace FQ := Lib.hid (FQ.out.after hb11)
      replace FB := Lib.hid (FB.out.after hb11)
      replace FM := Lib.hid (FM.out.after hb11)
      replace FM2 := Lib.hid (FM2.out.after hb11)
      replace FM3 := Lib.hid (FM3.out.after hb11)
      replace HB := Lib.hid (HB.out.trans (hb11.mono HB.out.size))
      clear hb11
      go_wp2_with fail
      go_ret
      exact ⟨rfl, HB.out⟩
end Go.Proofs.Ytppehiajocgiiaa
