/- The walk of TailsTurned: failures and successes change roles. -/
import Derived.Test.YtppehiajocgiiaaQTq
import Derived.Test.YtppehiajocgiiaaK21
import Derived.Test.YtppehiajocgiiaaK18
import Derived.Deep.DeepCutAuto
set_option linter.unusedVariables false
namespace Go.Proofs.Ytppehiajocgiiaa
open Go.RowKit

theorem ok_turn {α β : Nat} (h : Ok false α β) (hab : α ≤ β) : Ok false (β - α) β := by
  refine ⟨Nat.le_trans (limbs_len_mono (Nat.sub_le β α)) h.d32, h.d32, h.pos, ?_, fun _ => rfl⟩
  have := h.gcd
  have e : β = (β - α) + α := by omega
  have h1 : Nat.gcd (β - α) ((β - α) + α) = Nat.gcd (β - α) α := by simp
  rw [← e] at h1
  have h2 : Nat.gcd α ((β - α) + α) = Nat.gcd α (β - α) := by simp
  rw [← e] at h2
  rw [h1, Nat.gcd_comm, ← h2]
  exact this
theorem sub_turn {α β : Nat} (h : Ok false α β) (hab : α ≤ β) : opF subN (fr false 1 1) (fr false α β) = (fr false (β - α) β, 0) := by
  rw [rep_sub rep_one (rep_of_ok h), ← (rep_of_ok (ok_turn h hab)).made]
  refine madeZ_cong (by have := h.pos; omega) h.pos ?_
  show (1 * (β : Int) - α * ((1 : Nat) : Int)) * β = ((β - α : Nat) : Int) * ((1 * β : Nat) : Int)
  rw [Nat.one_mul]
  congr 1
  omega
theorem Tq_turn {a b m i : Nat} (h : Ok false a b) (hab : a ≤ b) (hb : b ≤ 1000) (hm : m ≤ 64) (hi : i ≤ m + 1) : opF sumN (Tq a b m i) (Tq (b - a) b m (m + 1 - i)) = (fr false 1 1, 0) := by
  have h1 := (tailF_q (k := i) h hab hb hm hi).2
  have h2 := (tailF_q (k := m + 1 - i) (ok_turn h hab) (Nat.sub_le b a) hb hm (by omega)).2
  rw [rep_add h1 h2, ← rep_one.made]
  refine madeZ_cong (Nat.mul_pos h1.1 h2.1) (by omega) ?_
  have ht := tl_turn a (b - a) m i hi
  rw [show b - (b - a) = a by omega]
  rw [show a + (b - a) = b by omega] at ht
  have ht' : ((tl a (b - a) m i : Nat) : Int) + (tl (b - a) a m (m + 1 - i) : Nat) = ((b ^ m : Nat) : Int) := by omega
  push_cast at ht' ⊢
  generalize ((b : Int) ^ m) = D at *
  grind
/-- A number as a fraction: the statement's own function. -/
theorem wholef_c (w : World) (v : Value) (n : Nat) (h : Sl w v (limbs n)) : Calls Try.prog 32 #[v] w (RetF1 w (Wh n)) := by
  obtain ⟨p, cp, rfl, _, _⟩ := h.shape
  have H := Lib.hid h
  clear h
  go_enter Try.func32, Try.ntmps32
  go_wp2_with fail
  refine bodyPost_ret (v := .agg #[.bool false, .slice p (limbs n).length cp, .slice (some ⟨w.heap.size + 1, 0, none⟩) 1 1]) (by simp [results, Try.results32, go_sem]) rfl ?_
  have hb1 := (Below.refl w.heap.size w).alloc (Nat.le_refl _) (.cells #[.bool false, .slice p (limbs n).length cp, .slice (some ⟨w.heap.size + 1, 0, none⟩) 1 1] 25)
  have hl := lit_one (w.alloc (.cells #[.bool false, .slice p (limbs n).length cp, .slice (some ⟨w.heap.size + 1, 0, none⟩) 1 1] 25))
  rw [show (w.alloc (.cells #[.bool false, .slice p (limbs n).length cp, .slice (some ⟨w.heap.size + 1, 0, none⟩) 1 1] 25)).heap.size = w.heap.size + 1 by simp] at hl
  exact ⟨_, rfl, ⟨_, _, rfl, (H.out.after hb1).alloc _, hl⟩, hb1.alloc hb1.size _⟩

theorem VarF.put {w : World} {R : Nat} {va vb : Value} {x : F} {n0 : Bool} (hR : Box w R #[.bool n0, .slice none 0 0, .slice none 0 0] 25) (h : IsF w (.agg #[.bool x.neg, va, vb]) x) :
    VarF (((w.setCell ⟨R, 0, none⟩ (.bool x.neg)).setCell ⟨R, 1, none⟩ va).setCell ⟨R, 2, none⟩ vb) R x := by
  obtain ⟨_, h1, h2⟩ := (h.set3 hR (fun _ h => by cases h) (fun _ h => by cases h) (fun _ h => by cases h) (.bool x.neg) va vb).parts
  exact ⟨va, vb, end_box hR, h1, h2⟩
theorem VarF.new {w : World} {va vb : Value} {x : F} (h : IsF w (.agg #[.bool x.neg, va, vb]) x) : VarF (w.alloc (.cells #[.bool x.neg, va, vb] 25)) w.heap.size x := by
  obtain ⟨_, h1, h2⟩ := (h.alloc (.cells #[.bool x.neg, va, vb] 25)).parts
  exact ⟨va, vb, Box.new w _ _, h1, h2⟩
theorem Below.put {w w2 : World} {R : Nat} {y0 y1 y2 : Value} (h : Below w.heap.size w w2) (hle : w.heap.size ≤ R) : Below w.heap.size w (((w2.setCell ⟨R, 0, none⟩ y0).setCell ⟨R, 1, none⟩ y1).setCell ⟨R, 2, none⟩ y2) :=
  ((h.setCell (p := ⟨R, 0, none⟩) hle y0).setCell (p := ⟨R, 1, none⟩) hle y1).setCell (p := ⟨R, 2, none⟩) hle y2

set_option maxRecDepth 100000 in
set_option maxHeartbeats 8000000 in
theorem turned_walk (w : World) (n k a b : Nat) (hn : n < 256) (hk : k < 256) (ha : a < 256) (hb : b < 256) : Calls Try.prog 7 #[.int .u8 (n : Int), .int .u8 (k : Int), .int .u8 (a : Int), .int .u8 (b : Int)] w fun e w' => e = .returned (.bool true) ∧ Below w.heap.size w w' := by
  obtain ⟨α, β, hp, hok, hab, hb1000, _, _⟩ := of_small (j := a % (b % 30 + 2)) (den := b % 30 + 1) (by have := Nat.mod_lt a (show 0 < b % 30 + 2 by omega); omega) (by omega) (by omega)
  have HP : Hid ((ofF ((a % (b % 30 + 2) : Nat) : Int) ((b % 30 + 1 : Nat) : Int)).1 = fr false α β) := congrArg Prod.fst hp
  obtain ⟨m, hmn⟩ : ∃ m, n % 13 = m := ⟨_, rfl⟩
  have hm12 : m ≤ 12 := by omega
  have hm : (n : Int) % 13 = (m : Int) := by omega
  obtain ⟨i, hin⟩ : ∃ i, k % (m + 2) = i := ⟨_, rfl⟩
  have him : i ≤ m + 1 := by have := Nat.mod_lt k (show 0 < m + 2 by omega); omega
  have hi : (k : Int) % ((m : Int) + 2) = (i : Int) := by rw [← hin]; push_cast; rfl
  obtain ⟨t, htn⟩ : ∃ t, n % 63 = t := ⟨_, rfl⟩
  have ht62 : t ≤ 62 := by omega
  have ht : (n : Int) % 63 = (t : Int) := by omega
  obtain ⟨j, hjn⟩ : ∃ j, k % (t + 1) = j := ⟨_, rfl⟩
  have hjt : j ≤ t := by have := Nat.mod_lt k (show 0 < t + 1 by omega); omega
  have hj : (k : Int) % ((t : Int) + 1) = (j : Int) := by rw [← hjn]; push_cast; rfl
  have hok2 := ok_turn hok hab
  have HQ : Hid (opF subN (fr false 1 1) (fr false α β) = (fr false (β - α) β, 0)) := sub_turn hok hab
  have HX : Hid (tailF (m : Int) (i : Int) (fr false α β) = (Tq α β m i, 0)) := (tailF_q hok hab hb1000 (by omega) him).1
  have HY : Hid (tailF (m : Int) ((m : Int) + 1 - (i : Int)) (fr false (β - α) β) = (Tq (β - α) β m (m + 1 - i), 0)) := by
    have := (tailF_q (k := m + 1 - i) hok2 (Nat.sub_le β α) hb1000 (show m ≤ 64 by omega) (by omega)).1
    rw [show ((m + 1 - i : Nat) : Int) = (m : Int) + 1 - (i : Int) by omega] at this
    exact this
  have HZ : Hid (opF sumN (Tq α β m i) (Tq (β - α) β m (m + 1 - i)) = (fr false 1 1, 0)) := Tq_turn hok hab hb1000 (by omega) him
  have HU : Hid (chooseF (t : Int) (j : Int) = (limbs (ch t j), 0)) := chooseF_val (by omega) hjt
  have HV : Hid (chooseF (t : Int) ((t : Int) - (j : Int)) = (limbs (ch t j), 0)) := by
    have := chooseF_val (n := t) (k := t - j) (by omega) (Nat.sub_le t j)
    rw [ch_flip hjt, show ((t - j : Nat) : Int) = (t : Int) - (j : Int) by omega] at this
    exact this
  have HW : Hid (chooseF ((t : Int) + 1) ((j : Int) + 1) = (limbs (ch (t + 1) (j + 1)), 0)) := by
    have := chooseF_val (n := t + 1) (k := j + 1) (by omega) (by omega)
    rw [show ((t + 1 : Nat) : Int) = (t : Int) + 1 by omega, show ((j + 1 : Nat) : Int) = (j : Int) + 1 by omega] at this
    exact this
  have lU : Hid ((limbs (ch t j)).length ≤ 32) := Nat.le_trans (ch_limbs (by omega)) (by omega)
  have HC : Hid (cmpF (Wh (ch t j)) (Wh (ch t j)) = (0, 0)) := cmpF_same (valid_wh lU.out)
  clear hp hmn hin htn hjn
  have HB : Hid (Below w.heap.size w w) := Below.refl _ _
  rcases Nat.lt_or_eq_of_le hjt with hlt | heq
  · have hjt2 : (j : Int) < (t : Int) := by omega
    have hjne : ((j : Int) == (t : Int)) = false := by simp; omega
    have HR : Hid (chooseF (t : Int) ((j : Int) + 1) = (limbs (ch t (j + 1)), 0)) := by
      have := chooseF_val (n := t) (k := j + 1) (by omega) hlt
      rw [show ((j + 1 : Nat) : Int) = (j : Int) + 1 by omega] at this
      exact this
    have lW : Hid ((limbs (ch (t + 1) (j + 1))).length ≤ 32) := Nat.le_trans (ch_limbs (by omega)) (by omega)
    have HA : Hid (opF sumN (Wh (ch t j)) (Wh (ch t (j + 1))) = (Wh (ch (t + 1) (j + 1)), 0)) := by
      show _ = _
      rw [ch_succ]
      exact add_wh lU.out (Nat.le_trans (ch_limbs (by omega)) (by omega)) (by rw [← ch_succ]; exact lW.out)
    have HCW : Hid (cmpF (Wh (ch (t + 1) (j + 1))) (Wh (ch (t + 1) (j + 1))) = (0, 0)) := cmpF_same (valid_wh lW.out)
    go_enter Try.func7, Try.ntmps7
    go_wp2_with fail
    refine (lrate_c _ a b ha hb).mono ?_
    rw [HP.out]
    rintro e w1 ⟨v, rfl, hv, hb1⟩
    have hv : IsF _ v (fr false α β) := hv
    obtain ⟨va, vb, rfl, h1, h2⟩ := hv
    obtain ⟨pP, mP, rfl, _, _⟩ := h1.shape
    obtain ⟨qP, nP, rfl, _, _⟩ := h2.shape
    have FP := Lib.hid (IsF.at_ h1 h2)
    clear h1 h2
    replace HB := Lib.hid (HB.out.trans (hb1.mono HB.out.size))
    clear hb1
    have g_P : w.heap.size ≤ w1.heap.size := by have := HB.out.size; omega
    go_upto_region 3 with fail
    obtain ⟨w2, hw⟩ : ∃ w2, w2 = w1.alloc (.cells #[.bool (fr false α β).neg, .slice pP (fr false α β).num.length mP, .slice qP (fr false α β).den.length nP] 25) := ⟨_, rfl⟩
    obtain ⟨hb2, CP⟩ := after_new (below_same hw)
    rw [← hw]
    clear hw
    rw [hi]
    replace CP := Lib.hid CP
    replace FP := Lib.hid (FP.out.after hb2)
    replace HB := Lib.hid (HB.out.trans (hb2.mono HB.out.size))
    clear hb2
    have mkS : Hid (∀ w', Below w2.heap.size w2 w' → (w'.cell? ⟨w1.heap.size, 0, none⟩ = some (.bool (fr false α β).neg) ∧ w'.cell? ⟨w1.heap.size, 1, none⟩ = some (.slice pP (fr false α β).num.length mP) ∧ w'.cell? ⟨w1.heap.size, 2, none⟩ = some (.slice qP (fr false α β).den.length nP))) := fun w' hb => (CP.out.after hb).cells3
    have dP := CP.out.lt
    go_cut [12] (fun x wx => ∃ B : Nat, x = .pointer (some ⟨B, 0, none⟩) ∧ w2.heap.size ≤ B ∧ Hid (VarF wx B (fr false (β - α) β)) ∧ Hid (Below w2.heap.size w2 wx))
    case first =>
      go_region_held3 (fun w' => (w'.cell? ⟨w1.heap.size, 0, none⟩ = some (.bool (fr false α β).neg) ∧ w'.cell? ⟨w1.heap.size, 1, none⟩ = some (.slice pP (fr false α β).num.length mP) ∧ w'.cell? ⟨w1.heap.size, 2, none⟩ = some (.slice qP (fr false α β).den.length nP)))
        (first | (refine mkS.out _ ?_; (repeat (first | with_reducible exact hk2 | with_reducible exact hk1 | with_reducible exact Below.refl _ _ | with_reducible refine below_dr ?_ | with_reducible refine held_alloc ?_ | ((with_reducible refine held_set ?_ ?_); rotate_left; with_reducible exact hle))); done))
        (first
         | (go_at_call 31; refine (lone_c _).mono ?_; rw [w_11]; rintro e wa ⟨v, rfl, hv, hb1⟩; have CZ1 : Box wa w2.heap.size #[.bool false, .slice none 0 0, .slice none 0 0] 25 := (after_new (below_of_drew hb1)).2; have hk1 : Below w2.heap.size w2 wa := (after_new (below_of_drew hb1)).1)
         | (go_at_call 31; refine (lone_c _).mono ?_; rw [w_11]; rintro e wa ⟨v, rfl, hv, hb1⟩; have hk1 : Below w2.heap.size w2 wa := below_of_drew hb1)
         | (go_at_call 30; refine (Sub_c _ _ _ (fr false 1 1) (fr false α β) ?_ ?_).mono ?_; exact hv; exact FP.out.after hk1; rw [HQ.out]; rintro e wb ⟨v, rfl, hv2, hb2⟩; have CZ : Box wb w2.heap.size #[.bool false, .slice none 0 0, .slice none 0 0] 25 := CZ1.after hb2; have hk2 := hk1.trans (hb2.mono hk1.size); have hle : w2.heap.size ≤ w2.heap.size := Nat.le_refl _; obtain ⟨z0, z1, z2⟩ := CZ.cells3; have f0 := CZ.frozen 0; have f1 := CZ.frozen 1; have f2 := CZ.frozen 2; have zlt := CZ.lt; have hv2 : IsF _ v (fr false (β - α) β) := hv2; obtain ⟨va, vb, rfl, h1, h2⟩ := hv2; obtain ⟨p6, cp6, rfl, _, _⟩ := h1.shape; obtain ⟨q6, cq6, rfl, _, _⟩ := h2.shape)
         | (go_at_call 30; refine (Sub_c _ _ _ (fr false 1 1) (fr false α β) ?_ ?_).mono ?_; exact hv.alloc _; exact (FP.out.after hk1).alloc _; rw [HQ.out]; rintro e wb ⟨v, rfl, hv2, hb2⟩; have CZ : Box wb wa.heap.size #[.bool false, .slice none 0 0, .slice none 0 0] 25 := (after_new hb2).2; have hk2 := hk1.trans ((after_new hb2).1.mono hk1.size); have hle := hk1.size; obtain ⟨z0, z1, z2⟩ := CZ.cells3; have f0 := CZ.frozen 0; have f1 := CZ.frozen 1; have f2 := CZ.frozen 2; have zlt := CZ.lt; have hv2 : IsF _ v (fr false (β - α) β) := hv2; obtain ⟨va, vb, rfl, h1, h2⟩ := hv2; obtain ⟨p6, cp6, rfl, _, _⟩ := h1.shape; obtain ⟨q6, cq6, rfl, _, _⟩ := h2.shape)
         | (go_at_call 30; refine (Sub_c _ _ _ (fr false 1 1) (fr false α β) ?_ ?_).mono ?_; exact hv; exact FP.out.after hk1; rw [HQ.out]; rintro e wb ⟨v, rfl, hv2, hb2⟩; have hk2 := hk1.trans (hb2.mono hk1.size); have hv2 : IsF _ v (fr false (β - α) β) := hv2; obtain ⟨va, vb, rfl, h1, h2⟩ := hv2; obtain ⟨p6, cp6, rfl, _, _⟩ := h1.shape; obtain ⟨q6, cq6, rfl, _, _⟩ := h2.shape)
         | (fail))
      all_goals
        (go_wp2_with fail
         go_meet
         case rel =>
           first
           | (refine ⟨_, rfl, ?_, ?_, ?_⟩
              rotate_left
              · (first | (with_reducible exact Lib.hid (VarF.put CZ (IsF.at_ h1 h2))) | (with_reducible exact Lib.hid (VarF.new (IsF.at_ h1 h2))))
              · (first | (with_reducible exact Lib.hid (Below.put hk2 hle)) | (with_reducible exact Lib.hid (held_alloc hk2)))
              · (first | (with_reducible exact Nat.le_refl _) | (with_reducible exact hle) | (with_reducible exact hk2.size) | omega)))
    case rest =>
      obtain ⟨bq, rfl, hbq, hvq, hbc⟩ := hcut
      replace CP := Lib.hid (CP.out.after hbc.out)
      replace FP := Lib.hid (FP.out.after hbc.out)
      replace HB := Lib.hid (HB.out.trans (hbc.out.mono HB.out.size))
      clear hbc mkS
      obtain ⟨va, vb, hbx, h1, h2⟩ := hvq.out
      obtain ⟨pq, mq, rfl, _, _⟩ := h1.shape
      obtain ⟨qq, nq, rfl, _, _⟩ := h2.shape
      have Cq := Lib.hid hbx
      have Fq := Lib.hid (IsF.at_ h1 h2)
      clear hbx h1 h2
      clear hvq
      have d_P_q : w1.heap.size < bq := by omega
      obtain ⟨cP0, cP1, cP2⟩ := CP.out.cells3
      have ltP := CP.out.lt
      obtain ⟨cq0, cq1, cq2⟩ := Cq.out.cells3
      have ltq := Cq.out.lt
      go_wp2_with fail
      refine (tTail_c _ m i _ (fr false α β) FP.out).mono ?_
      rw [HX.out]
      rintro e w11 ⟨v, rfl, hv, hb11⟩
      have hv : IsF _ v (Tq α β m i) := hv
      obtain ⟨va, vb, rfl, h1, h2⟩ := hv
      obtain ⟨px, mx, rfl, _, _⟩ := h1.shape
      obtain ⟨qx, nx, rfl, _, _⟩ := h2.shape
      have Fx := Lib.hid (IsF.at_ h1 h2)
      clear h1 h2
      clear cP0 cP1 cP2 ltP cq0 cq1 cq2 ltq
      replace CP := Lib.hid (CP.out.after hb11)
      replace Cq := Lib.hid (Cq.out.after hb11)
      replace FP := Lib.hid (FP.out.after hb11)
      replace Fq := Lib.hid (Fq.out.after hb11)
      replace HB := Lib.hid (HB.out.trans (hb11.mono HB.out.size))
      clear hb11
      have d_P_x : w1.heap.size < w11.heap.size := CP.out.lt
      have d_q_x : bq < w11.heap.size := Cq.out.lt
      have g_x : w.heap.size ≤ w11.heap.size := by have := HB.out.size; omega
      obtain ⟨cP0, cP1, cP2⟩ := CP.out.cells3
      have ltP := CP.out.lt
      obtain ⟨cq0, cq1, cq2⟩ := Cq.out.cells3
      have ltq := Cq.out.lt
      go_wp2_with fail
      refine (tTail_c _ m ((m : Int) + 1 - (i : Int)) _ (fr false (β - α) β) (Fq.out.alloc _)).mono ?_
      rw [HY.out]
      rintro e w12 ⟨v, rfl, hv, hb12⟩
      have hv : IsF _ v (Tq (β - α) β m (m + 1 - i)) := hv
      obtain ⟨va, vb, rfl, h1, h2⟩ := hv
      obtain ⟨py, my, rfl, _, _⟩ := h1.shape
      obtain ⟨qy, ny, rfl, _, _⟩ := h2.shape
      have Fy := Lib.hid (IsF.at_ h1 h2)
      clear h1 h2
      clear cP0 cP1 cP2 ltP cq0 cq1 cq2 ltq
      obtain ⟨hb12, Cx⟩ := after_new hb12
      replace Cx := Lib.hid Cx
      replace CP := Lib.hid (CP.out.after hb12)
      replace Cq := Lib.hid (Cq.out.after hb12)
      replace FP := Lib.hid (FP.out.after hb12)
      replace Fq := Lib.hid (Fq.out.after hb12)
      replace Fx := Lib.hid (Fx.out.after hb12)
      replace HB := Lib.hid (HB.out.trans (hb12.mono HB.out.size))
      clear hb12
      have d_P_y : w1.heap.size < w12.heap.size := CP.out.lt
      have d_q_y : bq < w12.heap.size := Cq.out.lt
      have d_x_y : w11.heap.size < w12.heap.size := Cx.out.lt
      have g_y : w.heap.size ≤ w12.heap.size := by have := HB.out.size; omega
      obtain ⟨cP0, cP1, cP2⟩ := CP.out.cells3
      have ltP := CP.out.lt
      obtain ⟨cq0, cq1, cq2⟩ := Cq.out.cells3
      have ltq := Cq.out.lt
      obtain ⟨cx0, cx1, cx2⟩ := Cx.out.cells3
      have ltx := Cx.out.lt
      go_wp2_with fail
      refine (Add_c _ _ _ _ _ (Fx.out.alloc _) (Fy.out.alloc _)).mono ?_
      rw [HZ.out]
      rintro e w13 ⟨v, rfl, hv, hb13⟩
      have hv : IsF _ v (fr false 1 1) := hv
      obtain ⟨va, vb, rfl, h1, h2⟩ := hv
      obtain ⟨pz, mz, rfl, _, _⟩ := h1.shape
      obtain ⟨qz, nz, rfl, _, _⟩ := h2.shape
      have Fz := Lib.hid (IsF.at_ h1 h2)
      clear h1 h2
      clear cP0 cP1 cP2 ltP cq0 cq1 cq2 ltq cx0 cx1 cx2 ltx
      obtain ⟨hb13, Cy⟩ := after_new hb13
      replace Cy := Lib.hid Cy
      replace CP := Lib.hid (CP.out.after hb13)
      replace Cq := Lib.hid (Cq.out.after hb13)
      replace Cx := Lib.hid (Cx.out.after hb13)
      replace FP := Lib.hid (FP.out.after hb13)
      replace Fq := Lib.hid (Fq.out.after hb13)
      replace Fx := Lib.hid (Fx.out.after hb13)
      replace Fy := Lib.hid (Fy.out.after hb13)
      replace HB := Lib.hid (HB.out.trans (hb13.mono HB.out.size))
      clear hb13
      have d_P_z : w1.heap.size < w13.heap.size := CP.out.lt
      have d_q_z : bq < w13.heap.size := Cq.out.lt
      have d_x_z : w11.heap.size < w13.heap.size := Cx.out.lt
      have d_y_z : w12.heap.size < w13.heap.size := Cy.out.lt
      have g_z : w.heap.size ≤ w13.heap.size := by have := HB.out.size; omega
      obtain ⟨cP0, cP1, cP2⟩ := CP.out.cells3
      have ltP := CP.out.lt
      obtain ⟨cq0, cq1, cq2⟩ := Cq.out.cells3
      have ltq := Cq.out.lt
      obtain ⟨cx0, cx1, cx2⟩ := Cx.out.cells3
      have ltx := Cx.out.lt
      obtain ⟨cy0, cy1, cy2⟩ := Cy.out.cells3
      have lty := Cy.out.lt
      go_wp2_with fail
      refine (is_c _ _ (fr false 1 1) 0 1 1 (Fz.out.alloc _) (by omega) (by omega) (by omega) (by omega)).mono ?_
      intro e w14 hr
      obtain ⟨rfl, hb14⟩ := hr.yes ⟨rfl, w_11.symm⟩
      clear hr
      clear cP0 cP1 cP2 ltP cq0 cq1 cq2 ltq cx0 cx1 cx2 ltx cy0 cy1 cy2 lty
      obtain ⟨hb14, Cz⟩ := after_new hb14
      replace Cz := Lib.hid Cz
      replace CP := Lib.hid (CP.out.after hb14)
      replace Cq := Lib.hid (Cq.out.after hb14)
      replace Cx := Lib.hid (Cx.out.after hb14)
      replace Cy := Lib.hid (Cy.out.after hb14)
      replace FP := Lib.hid (FP.out.after hb14)
      replace Fq := Lib.hid (Fq.out.after hb14)
      replace Fx := Lib.hid (Fx.out.after hb14)
      replace Fy := Lib.hid (Fy.out.after hb14)
      replace Fz := Lib.hid (Fz.out.after hb14)
      replace HB := Lib.hid (HB.out.trans (hb14.mono HB.out.size))
      clear hb14
      clear Fx Cx Fy Cy Fz Cz FP CP Fq Cq
      go_wp2_with fail
      refine (tChoose_c _ t j).mono ?_
      rw [HU.out]
      rintro e w15 ⟨v, rfl, hv, hb15⟩
      have hv : Sl _ v (limbs (ch t j)) := hv
      obtain ⟨pu, qu, rfl, _, _⟩ := hv.shape
      have Fu := Lib.hid hv
      clear hv
      replace HB := Lib.hid (HB.out.trans (hb15.mono HB.out.size))
      clear hb15
      go_wp2_with fail
      refine (tChoose_c _ t ((t : Int) - (j : Int))).mono ?_
      rw [HV.out]
      rintro e w16 ⟨v, rfl, hv, hb16⟩
      have hv : Sl _ v (limbs (ch t j)) := hv
      obtain ⟨pv, qv, rfl, _, _⟩ := hv.shape
      have Fv := Lib.hid hv
      clear hv
      replace Fu := Lib.hid (Fu.out.after hb16)
      replace HB := Lib.hid (HB.out.trans (hb16.mono HB.out.size))
      clear hb16
      go_wp2_with fail
      refine (tChoose_c _ ((t : Int) + 1) ((j : Int) + 1)).mono ?_
      rw [HW.out]
      rintro e w17 ⟨v, rfl, hv, hb17⟩
      have hv : Sl _ v (limbs (ch (t + 1) (j + 1))) := hv
      obtain ⟨ps, qs, rfl, _, _⟩ := hv.shape
      have Fs := Lib.hid hv
      clear hv
      replace Fu := Lib.hid (Fu.out.after hb17)
      replace Fv := Lib.hid (Fv.out.after hb17)
      replace HB := Lib.hid (HB.out.trans (hb17.mono HB.out.size))
      clear hb17
      go_wp2_with fail
      refine (wholef_c _ _ (ch t j) Fu.out).mono ?_
      rintro e w18 ⟨v, rfl, hv, hb18⟩
      have hv : IsF _ v (Wh (ch t j)) := hv
      obtain ⟨va, vb, rfl, h1, h2⟩ := hv
      obtain ⟨pU, mU, rfl, _, _⟩ := h1.shape
      obtain ⟨qU, nU, rfl, _, _⟩ := h2.shape
      have FU := Lib.hid (IsF.at_ h1 h2)
      clear h1 h2
      replace Fu := Lib.hid (Fu.out.after hb18)
      replace Fv := Lib.hid (Fv.out.after hb18)
      replace Fs := Lib.hid (Fs.out.after hb18)
      replace HB := Lib.hid (HB.out.trans (hb18.mono HB.out.size))
      clear hb18
      go_wp2_with fail
      refine (wholef_c _ _ (ch t j) Fv.out).mono ?_
      rintro e w19 ⟨v, rfl, hv, hb19⟩
      have hv : IsF _ v (Wh (ch t j)) := hv
      obtain ⟨va, vb, rfl, h1, h2⟩ := hv
      obtain ⟨pV, mV, rfl, _, _⟩ := h1.shape
      obtain ⟨qV, nV, rfl, _, _⟩ := h2.shape
      have FV := Lib.hid (IsF.at_ h1 h2)
      clear h1 h2
      replace Fu := Lib.hid (Fu.out.after hb19)
      replace Fv := Lib.hid (Fv.out.after hb19)
      replace Fs := Lib.hid (Fs.out.after hb19)
      replace FU := Lib.hid (FU.out.after hb19)
      replace HB := Lib.hid (HB.out.trans (hb19.mono HB.out.size))
      clear hb19
      go_wp2_with fail
      refine (Cmp_c _ _ _ _ _ FU.out FV.out).mono ?_
      rw [HC.out]
      rintro e w20 ⟨rfl, hb20⟩
      replace Fu := Lib.hid (Fu.out.after hb20)
      replace Fv := Lib.hid (Fv.out.after hb20)
      replace Fs := Lib.hid (Fs.out.after hb20)
      replace FU := Lib.hid (FU.out.after hb20)
      replace FV := Lib.hid (FV.out.after hb20)
      replace HB := Lib.hid (HB.out.trans (hb20.mono HB.out.size))
      clear hb20
      go_wp2_with fail
      refine (tChoose_c _ t ((j : Int) + 1)).mono ?_
      rw [HR.out]
      rintro e w21 ⟨v, rfl, hv, hb21⟩
      have hv : Sl _ v (limbs (ch t (j + 1))) := hv
      obtain ⟨pr, qr, rfl, _, _⟩ := hv.shape
      have Fr := Lib.hid hv
      clear hv
      replace Fu := Lib.hid (Fu.out.after hb21)
      replace Fv := Lib.hid (Fv.out.after hb21)
      replace Fs := Lib.hid (Fs.out.after hb21)
      replace FU := Lib.hid (FU.out.after hb21)
      replace FV := Lib.hid (FV.out.after hb21)
      replace HB := Lib.hid (HB.out.trans (hb21.mono HB.out.size))
      clear hb21
      go_wp2_with fail
      refine (wholef_c _ _ (ch t j) Fu.out).mono ?_
      rintro e w22 ⟨v, rfl, hv, hb22⟩
      have hv : IsF _ v (Wh (ch t j)) := hv
      obtain ⟨va, vb, rfl, h1, h2⟩ := hv
      obtain ⟨pA, mA, rfl, _, _⟩ := h1.shape
      obtain ⟨qA, nA, rfl, _, _⟩ := h2.shape
      have FA := Lib.hid (IsF.at_ h1 h2)
      clear h1 h2
      replace Fu := Lib.hid (Fu.out.after hb22)
      replace Fv := Lib.hid (Fv.out.after hb22)
      replace Fs := Lib.hid (Fs.out.after hb22)
      replace FU := Lib.hid (FU.out.after hb22)
      replace FV := Lib.hid (FV.out.after hb22)
      replace Fr := Lib.hid (Fr.out.after hb22)
      replace HB := Lib.hid (HB.out.trans (hb22.mono HB.out.size))
      clear hb22
      go_wp2_with fail
      refine (wholef_c _ _ (ch t (j + 1)) Fr.out).mono ?_
      rintro e w23 ⟨v, rfl, hv, hb23⟩
      have hv : IsF _ v (Wh (ch t (j + 1))) := hv
      obtain ⟨va, vb, rfl, h1, h2⟩ := hv
      obtain ⟨pB, mB, rfl, _, _⟩ := h1.shape
      obtain ⟨qB, nB, rfl, _, _⟩ := h2.shape
      have FB := Lib.hid (IsF.at_ h1 h2)
      clear h1 h2
      replace Fu := Lib.hid (Fu.out.after hb23)
      replace Fv := Lib.hid (Fv.out.after hb23)
      replace Fs := Lib.hid (Fs.out.after hb23)
      replace FU := Lib.hid (FU.out.after hb23)
      replace FV := Lib.hid (FV.out.after hb23)
      replace Fr := Lib.hid (Fr.out.after hb23)
      replace FA := Lib.hid (FA.out.after hb23)
      replace HB := Lib.hid (HB.out.trans (hb23.mono HB.out.size))
      clear hb23
      go_wp2_with fail
      refine (Add_c _ _ _ _ _ FA.out FB.out).mono ?_
      rw [HA.out]
      rintro e w24 ⟨v, rfl, hv, hb24⟩
      have hv : IsF _ v (Wh (ch (t + 1) (j + 1))) := hv
      obtain ⟨va, vb, rfl, h1, h2⟩ := hv
      obtain ⟨pS, mS, rfl, _, _⟩ := h1.shape
      obtain ⟨qS, nS, rfl, _, _⟩ := h2.shape
      have FS := Lib.hid (IsF.at_ h1 h2)
      clear h1 h2
      replace Fu := Lib.hid (Fu.out.after hb24)
      replace Fv := Lib.hid (Fv.out.after hb24)
      replace Fs := Lib.hid (Fs.out.after hb24)
      replace FU := Lib.hid (FU.out.after hb24)
      replace FV := Lib.hid (FV.out.after hb24)
      replace Fr := Lib.hid (Fr.out.after hb24)
      replace FA := Lib.hid (FA.out.after hb24)
      replace FB := Lib.hid (FB.out.after hb24)
      replace HB := Lib.hid (HB.out.trans (hb24.mono HB.out.size))
      clear hb24
      clear FA FB FU FV
      go_upto_region 24 with fail
      obtain ⟨w30, hw⟩ : ∃ w30, w30 = w24.alloc (.cells #[.bool (Wh (ch (t + 1) (j + 1))).neg, .slice pS (Wh (ch (t + 1) (j + 1))).num.length mS, .slice qS (Wh (ch (t + 1) (j + 1))).den.length nS] 25) := ⟨_, rfl⟩
      obtain ⟨hb2, CS⟩ := after_new (below_same hw)
      rw [← hw]
      clear hw
      replace Fu := Lib.hid (Fu.out.after hb2)
      replace Fv := Lib.hid (Fv.out.after hb2)
      replace Fs := Lib.hid (Fs.out.after hb2)
      replace Fr := Lib.hid (Fr.out.after hb2)
      replace FS := Lib.hid (FS.out.after hb2)
      replace HB := Lib.hid (HB.out.trans (hb2.mono HB.out.size))
      replace CS := Lib.hid CS
      clear hb2
      have mkS : Hid (∀ w', Below w30.heap.size w30 w' → (w'.cell? ⟨w24.heap.size, 0, none⟩ = some (.bool (Wh (ch (t + 1) (j + 1))).neg) ∧ w'.cell? ⟨w24.heap.size, 1, none⟩ = some (.slice pS (Wh (ch (t + 1) (j + 1))).num.length mS) ∧ w'.cell? ⟨w24.heap.size, 2, none⟩ = some (.slice qS (Wh (ch (t + 1) (j + 1))).den.length nS))) := fun w' hb => (CS.out.after hb).cells3
      go_region_held3 (fun w' => (w'.cell? ⟨w24.heap.size, 0, none⟩ = some (.bool (Wh (ch (t + 1) (j + 1))).neg) ∧ w'.cell? ⟨w24.heap.size, 1, none⟩ = some (.slice pS (Wh (ch (t + 1) (j + 1))).num.length mS) ∧ w'.cell? ⟨w24.heap.size, 2, none⟩ = some (.slice qS (Wh (ch (t + 1) (j + 1))).den.length nS)))
        (first | (refine mkS.out _ ?_; (repeat (first | with_reducible exact hk2 | with_reducible exact hk1 | with_reducible exact Below.refl _ _ | with_reducible refine below_dr ?_)); done))
        (first
         | (go_at_call 32; refine (wholef_c _ _ (ch (t + 1) (j + 1)) ?_).mono ?_; exact Fs.out.after (below_dr (Below.refl _ w30)); rintro e wa ⟨v, rfl, hv, hb⟩; have hk1 := below_of_drew hb)
         | (go_at_call 29; refine (Cmp_c _ _ _ (Wh (ch (t + 1) (j + 1))) (Wh (ch (t + 1) (j + 1))) ?_ hv).mono ?_; exact FS.out.after hk1; rw [HCW.out]; rintro e wb ⟨rfl, hb2⟩; have hk2 := hk1.trans (hb2.mono hk1.size))
         | (fail))
      clear hk1 hv hb hb2 mkS
      replace CS := Lib.hid (CS.out.after hk2)
      replace Fu := Lib.hid (Fu.out.after hk2)
      replace Fv := Lib.hid (Fv.out.after hk2)
      replace Fs := Lib.hid (Fs.out.after hk2)
      replace Fr := Lib.hid (Fr.out.after hk2)
      replace FS := Lib.hid (FS.out.after hk2)
      replace HB := Lib.hid (HB.out.trans (hk2.mono HB.out.size))
      clear hk2
      obtain ⟨cS0, cS1, cS2⟩ := CS.out.cells3
      have ltS := CS.out.lt
      go_wp2_with fail
      refine (works_c _).mono ?_
      rintro e w25 ⟨rfl, hb25⟩
      clear cS0 cS1 cS2 ltS
      replace CS := Lib.hid (CS.out.after hb25)
      replace Fu := Lib.hid (Fu.out.after hb25)
      replace Fv := Lib.hid (Fv.out.after hb25)
      replace Fs := Lib.hid (Fs.out.after hb25)
      replace Fr := Lib.hid (Fr.out.after hb25)
      replace FS := Lib.hid (FS.out.after hb25)
      replace HB := Lib.hid (HB.out.trans (hb25.mono HB.out.size))
      clear hb25
      go_wp2_with fail
      go_ret
      exact ⟨rfl, HB.out⟩
  · subst heq
    have HV0 : Hid (chooseF (j : Int) 0 = (limbs (ch j j), 0)) := by have := HV.out; rwa [Int.sub_self] at this
    go_enter Try.func7, Try.ntmps7
    go_wp2_with fail
    refine (lrate_c _ a b ha hb).mono ?_
    rw [HP.out]
    rintro e w1 ⟨v, rfl, hv, hb1⟩
    have hv : IsF _ v (fr false α β) := hv
    obtain ⟨va, vb, rfl, h1, h2⟩ := hv
    obtain ⟨pP, mP, rfl, _, _⟩ := h1.shape
    obtain ⟨qP, nP, rfl, _, _⟩ := h2.shape
    have FP := Lib.hid (IsF.at_ h1 h2)
    clear h1 h2
    replace HB := Lib.hid (HB.out.trans (hb1.mono HB.out.size))
    clear hb1
    have g_P : w.heap.size ≤ w1.heap.size := by have := HB.out.size; omega
    go_upto_region 3 with fail
    obtain ⟨w2, hw⟩ : ∃ w2, w2 = w1.alloc (.cells #[.bool (fr false α β).neg, .slice pP (fr false α β).num.length mP, .slice qP (fr false α β).den.length nP] 25) := ⟨_, rfl⟩
    obtain ⟨hb2, CP⟩ := after_new (below_same hw)
    rw [← hw]
    clear hw
    rw [hi]
    replace CP := Lib.hid CP
    replace FP := Lib.hid (FP.out.after hb2)
    replace HB := Lib.hid (HB.out.trans (hb2.mono HB.out.size))
    clear hb2
    have mkS : Hid (∀ w', Below w2.heap.size w2 w' → (w'.cell? ⟨w1.heap.size, 0, none⟩ = some (.bool (fr false α β).neg) ∧ w'.cell? ⟨w1.heap.size, 1, none⟩ = some (.slice pP (fr false α β).num.length mP) ∧ w'.cell? ⟨w1.heap.size, 2, none⟩ = some (.slice qP (fr false α β).den.length nP))) := fun w' hb => (CP.out.after hb).cells3
    have dP := CP.out.lt
    go_cut [12] (fun x wx => ∃ B : Nat, x = .pointer (some ⟨B, 0, none⟩) ∧ w2.heap.size ≤ B ∧ Hid (VarF wx B (fr false (β - α) β)) ∧ Hid (Below w2.heap.size w2 wx))
    case first =>
      go_region_held3 (fun w' => (w'.cell? ⟨w1.heap.size, 0, none⟩ = some (.bool (fr false α β).neg) ∧ w'.cell? ⟨w1.heap.size, 1, none⟩ = some (.slice pP (fr false α β).num.length mP) ∧ w'.cell? ⟨w1.heap.size, 2, none⟩ = some (.slice qP (fr false α β).den.length nP)))
        (first | (refine mkS.out _ ?_; (repeat (first | with_reducible exact hk2 | with_reducible exact hk1 | with_reducible exact Below.refl _ _ | with_reducible refine below_dr ?_ | with_reducible refine held_alloc ?_ | ((with_reducible refine held_set ?_ ?_); rotate_left; with_reducible exact hle))); done))
        (first
         | (go_at_call 31; refine (lone_c _).mono ?_; rw [w_11]; rintro e wa ⟨v, rfl, hv, hb1⟩; have CZ1 : Box wa w2.heap.size #[.bool false, .slice none 0 0, .slice none 0 0] 25 := (after_new (below_of_drew hb1)).2; have hk1 : Below w2.heap.size w2 wa := (after_new (below_of_drew hb1)).1)
         | (go_at_call 31; refine (lone_c _).mono ?_; rw [w_11]; rintro e wa ⟨v, rfl, hv, hb1⟩; have hk1 : Below w2.heap.size w2 wa := below_of_drew hb1)
         | (go_at_call 30; refine (Sub_c _ _ _ (fr false 1 1) (fr false α β) ?_ ?_).mono ?_; exact hv; exact FP.out.after hk1; rw [HQ.out]; rintro e wb ⟨v, rfl, hv2, hb2⟩; have CZ : Box wb w2.heap.size #[.bool false, .slice none 0 0, .slice none 0 0] 25 := CZ1.after hb2; have hk2 := hk1.trans (hb2.mono hk1.size); have hle : w2.heap.size ≤ w2.heap.size := Nat.le_refl _; obtain ⟨z0, z1, z2⟩ := CZ.cells3; have f0 := CZ.frozen 0; have f1 := CZ.frozen 1; have f2 := CZ.frozen 2; have zlt := CZ.lt; have hv2 : IsF _ v (fr false (β - α) β) := hv2; obtain ⟨va, vb, rfl, h1, h2⟩ := hv2; obtain ⟨p6, cp6, rfl, _, _⟩ := h1.shape; obtain ⟨q6, cq6, rfl, _, _⟩ := h2.shape)
         | (go_at_call 30; refine (Sub_c _ _ _ (fr false 1 1) (fr false α β) ?_ ?_).mono ?_; exact hv.alloc _; exact (FP.out.after hk1).alloc _; rw [HQ.out]; rintro e wb ⟨v, rfl, hv2, hb2⟩; have CZ : Box wb wa.heap.size #[.bool false, .slice none 0 0, .slice none 0 0] 25 := (after_new hb2).2; have hk2 := hk1.trans ((after_new hb2).1.mono hk1.size); have hle := hk1.size; obtain ⟨z0, z1, z2⟩ := CZ.cells3; have f0 := CZ.frozen 0; have f1 := CZ.frozen 1; have f2 := CZ.frozen 2; have zlt := CZ.lt; have hv2 : IsF _ v (fr false (β - α) β) := hv2; obtain ⟨va, vb, rfl, h1, h2⟩ := hv2; obtain ⟨p6, cp6, rfl, _, _⟩ := h1.shape; obtain ⟨q6, cq6, rfl, _, _⟩ := h2.shape)
         | (go_at_call 30; refine (Sub_c _ _ _ (fr false 1 1) (fr false α β) ?_ ?_).mono ?_; exact hv; exact FP.out.after hk1; rw [HQ.out]; rintro e wb ⟨v, rfl, hv2, hb2⟩; have hk2 := hk1.trans (hb2.mono hk1.size); have hv2 : IsF _ v (fr false (β - α) β) := hv2; obtain ⟨va, vb, rfl, h1, h2⟩ := hv2; obtain ⟨p6, cp6, rfl, _, _⟩ := h1.shape; obtain ⟨q6, cq6, rfl, _, _⟩ := h2.shape)
         | (fail))
      all_goals
        (go_wp2_with fail
         go_meet
         case rel =>
           first
           | (refine ⟨_, rfl, ?_, ?_, ?_⟩
              rotate_left
              · (first | (with_reducible exact Lib.hid (VarF.put CZ (IsF.at_ h1 h2))) | (with_reducible exact Lib.hid (VarF.new (IsF.at_ h1 h2))))
              · (first | (with_reducible exact Lib.hid (Below.put hk2 hle)) | (with_reducible exact Lib.hid (held_alloc hk2)))
              · (first | (with_reducible exact Nat.le_refl _) | (with_reducible exact hle) | (with_reducible exact hk2.size) | omega)))
    case rest =>
      obtain ⟨bq, rfl, hbq, hvq, hbc⟩ := hcut
      replace CP := Lib.hid (CP.out.after hbc.out)
      replace FP := Lib.hid (FP.out.after hbc.out)
      replace HB := Lib.hid (HB.out.trans (hbc.out.mono HB.out.size))
      clear hbc mkS
      obtain ⟨va, vb, hbx, h1, h2⟩ := hvq.out
      obtain ⟨pq, mq, rfl, _, _⟩ := h1.shape
      obtain ⟨qq, nq, rfl, _, _⟩ := h2.shape
      have Cq := Lib.hid hbx
      have Fq := Lib.hid (IsF.at_ h1 h2)
      clear hbx h1 h2
      clear hvq
      have d_P_q : w1.heap.size < bq := by omega
      obtain ⟨cP0, cP1, cP2⟩ := CP.out.cells3
      have ltP := CP.out.lt
      obtain ⟨cq0, cq1, cq2⟩ := Cq.out.cells3
      have ltq := Cq.out.lt
      go_wp2_with fail
      refine (tTail_c _ m i _ (fr false α β) FP.out).mono ?_
      rw [HX.out]
      rintro e w11 ⟨v, rfl, hv, hb11⟩
      have hv : IsF _ v (Tq α β m i) := hv
      obtain ⟨va, vb, rfl, h1, h2⟩ := hv
      obtain ⟨px, mx, rfl, _, _⟩ := h1.shape
      obtain ⟨qx, nx, rfl, _, _⟩ := h2.shape
      have Fx := Lib.hid (IsF.at_ h1 h2)
      clear h1 h2
      clear cP0 cP1 cP2 ltP cq0 cq1 cq2 ltq
      replace CP := Lib.hid (CP.out.after hb11)
      replace Cq := Lib.hid (Cq.out.after hb11)
      replace FP := Lib.hid (FP.out.after hb11)
      replace Fq := Lib.hid (Fq.out.after hb11)
      replace HB := Lib.hid (HB.out.trans (hb11.mono HB.out.size))
      clear hb11
      have d_P_x : w1.heap.size < w11.heap.size := CP.out.lt
      have d_q_x : bq < w11.heap.size := Cq.out.lt
      have g_x : w.heap.size ≤ w11.heap.size := by have := HB.out.size; omega
      obtain ⟨cP0, cP1, cP2⟩ := CP.out.cells3
      have ltP := CP.out.lt
      obtain ⟨cq0, cq1, cq2⟩ := Cq.out.cells3
      have ltq := Cq.out.lt
      go_wp2_with fail
      refine (tTail_c _ m ((m : Int) + 1 - (i : Int)) _ (fr false (β - α) β) (Fq.out.alloc _)).mono ?_
      rw [HY.out]
      rintro e w12 ⟨v, rfl, hv, hb12⟩
      have hv : IsF _ v (Tq (β - α) β m (m + 1 - i)) := hv
      obtain ⟨va, vb, rfl, h1, h2⟩ := hv
      obtain ⟨py, my, rfl, _, _⟩ := h1.shape
      obtain ⟨qy, ny, rfl, _, _⟩ := h2.shape
      have Fy := Lib.hid (IsF.at_ h1 h2)
      clear h1 h2
      clear cP0 cP1 cP2 ltP cq0 cq1 cq2 ltq
      obtain ⟨hb12, Cx⟩ := after_new hb12
      replace Cx := Lib.hid Cx
      replace CP := Lib.hid (CP.out.after hb12)
      replace Cq := Lib.hid (Cq.out.after hb12)
      replace FP := Lib.hid (FP.out.after hb12)
      replace Fq := Lib.hid (Fq.out.after hb12)
      replace Fx := Lib.hid (Fx.out.after hb12)
      replace HB := Lib.hid (HB.out.trans (hb12.mono HB.out.size))
      clear hb12
      have d_P_y : w1.heap.size < w12.heap.size := CP.out.lt
      have d_q_y : bq < w12.heap.size := Cq.out.lt
      have d_x_y : w11.heap.size < w12.heap.size := Cx.out.lt
      have g_y : w.heap.size ≤ w12.heap.size := by have := HB.out.size; omega
      obtain ⟨cP0, cP1, cP2⟩ := CP.out.cells3
      have ltP := CP.out.lt
      obtain ⟨cq0, cq1, cq2⟩ := Cq.out.cells3
      have ltq := Cq.out.lt
      obtain ⟨cx0, cx1, cx2⟩ := Cx.out.cells3
      have ltx := Cx.out.lt
      go_wp2_with fail
      refine (Add_c _ _ _ _ _ (Fx.out.alloc _) (Fy.out.alloc _)).mono ?_
      rw [HZ.out]
      rintro e w13 ⟨v, rfl, hv, hb13⟩
      have hv : IsF _ v (fr false 1 1) := hv
      obtain ⟨va, vb, rfl, h1, h2⟩ := hv
      obtain ⟨pz, mz, rfl, _, _⟩ := h1.shape
      obtain ⟨qz, nz, rfl, _, _⟩ := h2.shape
      have Fz := Lib.hid (IsF.at_ h1 h2)
      clear h1 h2
      clear cP0 cP1 cP2 ltP cq0 cq1 cq2 ltq cx0 cx1 cx2 ltx
      obtain ⟨hb13, Cy⟩ := after_new hb13
      replace Cy := Lib.hid Cy
      replace CP := Lib.hid (CP.out.after hb13)
      replace Cq := Lib.hid (Cq.out.after hb13)
      replace Cx := Lib.hid (Cx.out.after hb13)
      replace FP := Lib.hid (FP.out.after hb13)
      replace Fq := Lib.hid (Fq.out.after hb13)
      replace Fx := Lib.hid (Fx.out.after hb13)
      replace Fy := Lib.hid (Fy.out.after hb13)
      replace HB := Lib.hid (HB.out.trans (hb13.mono HB.out.size))
      clear hb13
      have d_P_z : w1.heap.size < w13.heap.size := CP.out.lt
      have d_q_z : bq < w13.heap.size := Cq.out.lt
      have d_x_z : w11.heap.size < w13.heap.size := Cx.out.lt
      have d_y_z : w12.heap.size < w13.heap.size := Cy.out.lt
      have g_z : w.heap.size ≤ w13.heap.size := by have := HB.out.size; omega
      obtain ⟨cP0, cP1, cP2⟩ := CP.out.cells3
      have ltP := CP.out.lt
      obtain ⟨cq0, cq1, cq2⟩ := Cq.out.cells3
      have ltq := Cq.out.lt
      obtain ⟨cx0, cx1, cx2⟩ := Cx.out.cells3
      have ltx := Cx.out.lt
      obtain ⟨cy0, cy1, cy2⟩ := Cy.out.cells3
      have lty := Cy.out.lt
      go_wp2_with fail
      refine (is_c _ _ (fr false 1 1) 0 1 1 (Fz.out.alloc _) (by omega) (by omega) (by omega) (by omega)).mono ?_
      intro e w14 hr
      obtain ⟨rfl, hb14⟩ := hr.yes ⟨rfl, w_11.symm⟩
      clear hr
      clear cP0 cP1 cP2 ltP cq0 cq1 cq2 ltq cx0 cx1 cx2 ltx cy0 cy1 cy2 lty
      obtain ⟨hb14, Cz⟩ := after_new hb14
      replace Cz := Lib.hid Cz
      replace CP := Lib.hid (CP.out.after hb14)
      replace Cq := Lib.hid (Cq.out.after hb14)
      replace Cx := Lib.hid (Cx.out.after hb14)
      replace Cy := Lib.hid (Cy.out.after hb14)
      replace FP := Lib.hid (FP.out.after hb14)
      replace Fq := Lib.hid (Fq.out.after hb14)
      replace Fx := Lib.hid (Fx.out.after hb14)
      replace Fy := Lib.hid (Fy.out.after hb14)
      replace Fz := Lib.hid (Fz.out.after hb14)
      replace HB := Lib.hid (HB.out.trans (hb14.mono HB.out.size))
      clear hb14
      clear Fx Cx Fy Cy Fz Cz FP CP Fq Cq
      go_wp2_with fail
      refine (tChoose_c _ j j).mono ?_
      rw [HU.out]
      rintro e w15 ⟨v, rfl, hv, hb15⟩
      have hv : Sl _ v (limbs (ch j j)) := hv
      obtain ⟨pu, qu, rfl, _, _⟩ := hv.shape
      have Fu := Lib.hid hv
      clear hv
      replace HB := Lib.hid (HB.out.trans (hb15.mono HB.out.size))
      clear hb15
      go_wp2_with fail
      refine (tChoose_c _ j 0).mono ?_
      rw [HV0.out]
      rintro e w16 ⟨v, rfl, hv, hb16⟩
      have hv : Sl _ v (limbs (ch j j)) := hv
      obtain ⟨pv, qv, rfl, _, _⟩ := hv.shape
      have Fv := Lib.hid hv
      clear hv
      replace Fu := Lib.hid (Fu.out.after hb16)
      replace HB := Lib.hid (HB.out.trans (hb16.mono HB.out.size))
      clear hb16
      go_wp2_with fail
      refine (tChoose_c _ ((j : Int) + 1) ((j : Int) + 1)).mono ?_
      rw [HW.out]
      rintro e w17 ⟨v, rfl, hv, hb17⟩
      have hv : Sl _ v (limbs (ch (j + 1) (j + 1))) := hv
      obtain ⟨ps, qs, rfl, _, _⟩ := hv.shape
      have Fs := Lib.hid hv
      clear hv
      replace Fu := Lib.hid (Fu.out.after hb17)
      replace Fv := Lib.hid (Fv.out.after hb17)
      replace HB := Lib.hid (HB.out.trans (hb17.mono HB.out.size))
      clear hb17
      go_wp2_with fail
      refine (wholef_c _ _ (ch j j) Fu.out).mono ?_
      rintro e w18 ⟨v, rfl, hv, hb18⟩
      have hv : IsF _ v (Wh (ch j j)) := hv
      obtain ⟨va, vb, rfl, h1, h2⟩ := hv
      obtain ⟨pU, mU, rfl, _, _⟩ := h1.shape
      obtain ⟨qU, nU, rfl, _, _⟩ := h2.shape
      have FU := Lib.hid (IsF.at_ h1 h2)
      clear h1 h2
      replace Fu := Lib.hid (Fu.out.after hb18)
      replace Fv := Lib.hid (Fv.out.after hb18)
      replace Fs := Lib.hid (Fs.out.after hb18)
      replace HB := Lib.hid (HB.out.trans (hb18.mono HB.out.size))
      clear hb18
      go_wp2_with fail
      refine (wholef_c _ _ (ch j j) Fv.out).mono ?_
      rintro e w19 ⟨v, rfl, hv, hb19⟩
      have hv : IsF _ v (Wh (ch j j)) := hv
      obtain ⟨va, vb, rfl, h1, h2⟩ := hv
      obtain ⟨pV, mV, rfl, _, _⟩ := h1.shape
      obtain ⟨qV, nV, rfl, _, _⟩ := h2.shape
      have FV := Lib.hid (IsF.at_ h1 h2)
      clear h1 h2
      replace Fu := Lib.hid (Fu.out.after hb19)
      replace Fv := Lib.hid (Fv.out.after hb19)
      replace Fs := Lib.hid (Fs.out.after hb19)
      replace FU := Lib.hid (FU.out.after hb19)
      replace HB := Lib.hid (HB.out.trans (hb19.mono HB.out.size))
      clear hb19
      go_wp2_with fail
      refine (Cmp_c _ _ _ _ _ FU.out FV.out).mono ?_
      rw [HC.out]
      rintro e w20 ⟨rfl, hb20⟩
      replace Fu := Lib.hid (Fu.out.after hb20)
      replace Fv := Lib.hid (Fv.out.after hb20)
      replace Fs := Lib.hid (Fs.out.after hb20)
      replace FU := Lib.hid (FU.out.after hb20)
      replace FV := Lib.hid (FV.out.after hb20)
      replace HB := Lib.hid (HB.out.trans (hb20.mono HB.out.size))
      clear hb20
      go_wp2_with fail
      refine (works_c _).mono ?_
      rintro e w21 ⟨rfl, hb21⟩
      replace Fu := Lib.hid (Fu.out.after hb21)
      replace Fv := Lib.hid (Fv.out.after hb21)
      replace Fs := Lib.hid (Fs.out.after hb21)
      replace FU := Lib.hid (FU.out.after hb21)
      replace FV := Lib.hid (FV.out.after hb21)
      replace HB := Lib.hid (HB.out.trans (hb21.mono HB.out.size))
      clear hb21
      go_wp2_with fail
      go_ret
      exact ⟨rfl, HB.out⟩
end Go.Proofs.Ytppehiajocgiiaa
