/- Walks of the reference of lexis: the number of digits; what is skipped. -/
import Derived.Test.YtganlldidjbpiaaGreatDoorQLexV1
import Derived.Test.YtganlldidjbpiaaGreatDoorK14
set_option linter.unusedVariables false
namespace Go.Proofs.YtganlldidjbpiaaGreatDoor
open Go.RowKit

theorem take_next {l : List UInt8} {k : Nat} (h : k < l.length) : l.take (k + 1) = l.take k ++ [l[k]] := List.take_succ_eq_append_getElem h
theorem numV_next {l : List UInt8} {k : Nat} (h : k < l.length) : numV (l.take (k + 1)) = 10 * numV (l.take k) + (l[k].toNat - 48) := by rw [take_next h, numV_snoc]
theorem numV_small {l : List UInt8} (hd : ∀ c ∈ l, isDig c = true) (hl : l.length ≤ 9) (k : Nat) : numV (l.take k) < 1000000000 := by
  have h1 := numV_lt (l.take k) (fun c hc => hd c (List.mem_of_mem_take hc))
  have h2 : (l.take k).length ≤ 9 := by rw [List.length_take]; omega
  have h3 : 10 ^ (l.take k).length ≤ 10 ^ 9 := Nat.pow_le_pow_right (by omega) h2
  omega
set_option maxHeartbeats 1000000 in
theorem rValue_c (l : List UInt8) (hd : ∀ c ∈ l, isDig c = true) (hl9 : l.length ≤ 9) (w : World) :
    Calls Tryz.prog 71 #[.string (bs l)] w fun e w' => e = .returned (.int .i64 ((numV l : Nat) : Int)) ∧ w = w' := by
  have hs : (bs l).size = l.length := bs_size l
  have HD := Lib.hid hd
  clear hd
  go_enter Tryz.func71, Tryz.ntmps71
  go_wp2_with fail
  go_loop [3, 4] (fun v t => ∃ (k a : Nat), k ≤ l.length ∧ t = .int .i64 (k : Int) ∧ v = .int .i64 (a : Int) ∧ Hid (numV (l.take k) = a)) (fun _ t => l.length - (intOf t).toNat)
  case atStart => exact ⟨0, 0, Nat.zero_le _, rfl, rfl, rfl⟩
  case round =>
    obtain ⟨k, a, hk, rfl, rfl, hr⟩ := hrel
    have hsm : a < 1000000000 := by rw [← hr.out]; exact numV_small HD.out hl9 k
    by_cases hlt : k < l.length
    · have hget : (bs l)[k]'hlt = l[k] := rfl
      have hdg : 48 ≤ l[k].toNat ∧ l[k].toNat ≤ 57 := of_decide_eq_true (HD.out _ (List.getElem_mem hlt))
      have hz : Hid (numV (l.take (k + 1)) = 10 * a + (l[k].toNat - 48)) := by show _ = _; rw [numV_next hlt, hr.out]
      obtain ⟨q, hq⟩ : ∃ q, ((bs l)[k]'hlt).toNat = q := ⟨_, rfl⟩
      have hq' : l[k].toNat = q := hq
      rw [hq'] at hdg hz
      clear hq' hget
      obtain ⟨d1, d2⟩ := hdg
      go_wp2_with fail
      go_round
      case rel => exact ⟨k + 1, 10 * a + (q - 48), by omega, by go_num, by go_num, hz.out⟩
      case measure => simp [intOf]; omega
    · obtain rfl : k = l.length := by omega
      have hz : Hid (numV l = a) := by have := hr.out; rw [List.take_length] at this; exact this
      go_wp2_with fail
      go_ret
      exact ⟨ret_int (by rw [hz.out]), rfl⟩
/-- How many bytes of an open remark, and of what is idle behind it, there are. -/
def idleT (l : List UInt8) : Nat := l.length - (skp true l).length
theorem idleN_nil : idleN [] = 0 := rfl
theorem idleT_nil : idleT [] = 0 := rfl
theorem idleN_blk {c : UInt8} (h : isBlk c = true) (l : List UInt8) : idleN (c :: l) = idleN l + 1 := by
  have := skp_len false l
  unfold idleN; rw [skp_blk h, List.length_cons]; omega
theorem idleN_hash {c : UInt8} (h : c.toNat = 35) (l : List UInt8) : idleN (c :: l) = idleT (c :: l) := by
  unfold idleN idleT; rw [skp_hash h, skp, if_neg (by omega)]
theorem idleN_stop {c : UInt8} (h : isBlk c = false) (h2 : c.toNat ≠ 35) (l : List UInt8) : idleN (c :: l) = 0 := by
  unfold idleN; rw [skp_stop h h2]; omega
theorem idleT_go {c : UInt8} (h : c.toNat ≠ 10) (l : List UInt8) : idleT (c :: l) = idleT l + 1 := by
  have := skp_len true l
  unfold idleT; rw [skp, if_neg h, List.length_cons]; omega
theorem idleT_line {c : UInt8} (h : c.toNat = 10) (l : List UInt8) : idleT (c :: l) = idleN (c :: l) := by
  unfold idleT idleN; rw [skp, if_pos h, skp_blk (by simp [isBlk, h])]
set_option maxHeartbeats 1000000 in
theorem rskip_c (l : List UInt8) (i : Nat) (hi : i ≤ l.length) (w : World) (hl : l.length ≤ 9223372036854775807) :
    Calls Tryz.prog 34 #[.string (bs l), .int .i64 (i : Int)] w fun e w' => e = .returned (.int .i64 ((i + idleN (l.drop i) : Nat) : Int)) ∧ w = w' := by
  have hs : (bs l).size = l.length := bs_size l
  obtain ⟨N, hN⟩ : ∃ N, i + idleN (l.drop i) = N := ⟨_, rfl⟩
  rw [hN]
  have HN := Lib.hid hN
  clear hN
  go_enter Tryz.func34, Tryz.ntmps34
  go_wp2_with fail
  go_loop [1] (fun t => ∃ k : Nat, k ≤ l.length ∧ t = .int .i64 (k : Int) ∧ Hid (k + idleN (l.drop k) = N)) (fun t => l.length - (intOf t).toNat)
  case atStart => exact ⟨i, hi, rfl, HN.out⟩
  case round =>
    obtain ⟨k, hk, rfl, hr⟩ := hrel
    clear HN
    by_cases hlt : k < l.length
    · have hget : (bs l)[k]'hlt = l[k] := rfl
      have hd : decide ((k : Int) < (l.length : Int)) = true := decide_eq_true (by omega)
      by_cases h2 : l[k].toNat = 35
      · -- a remark
        have h3 : ((((bs l)[k]'hlt).toNat : Int) == 35) = true := (beq_lit l[k].toNat 35).trans (decide_eq_true h2)
        have h4 : ((((bs l)[k]'hlt).toNat : Int) != 35) = false := (bne_lit l[k].toNat 35).trans (by simp [h2])
        have h1 : isBlk l[k] = false := by unfold isBlk; apply decide_eq_false; omega
        have hz : Hid (k + idleT (l.drop k) = N) := by
          have := hr.out
          rw [drop_next hlt, idleN_hash h2, ← drop_next hlt] at this
          exact this
        have HX : Hid (l[k].toNat = 35) := h2
        clear hr h2
        go_wp2_with (go_at_call 66; refine (rblank_c l[k] _).mono ?_; rintro e w' ⟨rfl, rfl⟩; rw [h1])
        clear h1 h3 h4 hd hget
        go_loop [1] (fun t => ∃ j : Nat, k ≤ j ∧ j ≤ l.length ∧ t = .int .i64 (j : Int) ∧ Hid (j + idleT (l.drop j) = N)) (fun t => l.length - (intOf t).toNat)
        case atStart => exact ⟨k, Nat.le_refl _, hk, rfl, hz.out⟩
        case round =>
          obtain ⟨j, hj1, hj2, rfl, hr⟩ := hrel
          clear hz
          by_cases hjl : j < l.length
          · have hget : (bs l)[j]'hjl = l[j] := rfl
            have hd : decide ((j : Int) < (l.length : Int)) = true := decide_eq_true (by omega)
            by_cases h5 : l[j].toNat = 10
            · have h6 : ((((bs l)[j]'hjl).toNat : Int) != 10) = false := (bne_lit l[j].toNat 10).trans (by simp [h5])
              have hz : Hid (j + idleN (l.drop j) = N) := by
                have := hr.out
                rw [drop_next hjl, idleT_line h5, ← drop_next hjl] at this
                exact this
              have hkj : k < j := by
                rcases Nat.lt_or_ge k j with h | h
                · exact h
                · obtain rfl : k = j := by omega
                  have := HX.out
                  omega
              clear h5 hr
              go_wp2_with fail
              go_round
              case rel => exact ⟨j, hj2, rfl, hz.out⟩
              case measure => simp [intOf]; omega
            · have h6 : ((((bs l)[j]'hjl).toNat : Int) != 10) = true := (bne_lit l[j].toNat 10).trans (by simp [h5])
              have hz : Hid (j + 1 + idleT (l.drop (j + 1)) = N) := by
                have := hr.out
                rw [drop_next hjl, idleT_go h5] at this
                show _ = _
                omega
              clear h5 hr
              go_wp2_with fail
              go_round
              case rel => exact ⟨j + 1, by omega, by omega, by go_num, hz.out⟩
              case measure => simp [intOf]; omega
          · obtain rfl : j = l.length := by omega
            have hz : Hid (l.length + idleN (l.drop l.length) = N) := by
              have := hr.out
              rw [List.drop_length] at this ⊢
              exact this
            clear hr
            go_wp2_with fail
            go_round
            case rel => exact ⟨l.length, Nat.le_refl _, rfl, hz.out⟩
            case measure => simp [intOf]; omega
      · have h3 : ((((bs l)[k]'hlt).toNat : Int) == 35) = false := (beq_lit l[k].toNat 35).trans (decide_eq_false h2)
        have h4 : ((((bs l)[k]'hlt).toNat : Int) != 35) = true := (bne_lit l[k].toNat 35).trans (by simp [h2])
        cases h1 : isBlk l[k]
        · have hz : Hid (N = k) := by
            have := hr.out
            rw [drop_next hlt, idleN_stop h1 h2] at this
            exact this.symm
          clear hr h2
          go_wp2_with (go_at_call 66; refine (rblank_c l[k] _).mono ?_; rintro e w' ⟨rfl, rfl⟩; rw [h1])
          go_ret
          exact ⟨ret_int (by rw [hz.out]), rfl⟩
        · have hz : Hid (k + 1 + idleN (l.drop (k + 1)) = N) := by
            have := hr.out
            rw [drop_next hlt, idleN_blk h1] at this
            show _ = _
            omega
          clear hr h2
          go_wp2_with (go_at_call 66; refine (rblank_c l[k] _).mono ?_; rintro e w' ⟨rfl, rfl⟩; rw [h1])
          go_round
          case rel => exact ⟨k + 1, by omega, by go_num, hz.out⟩
          case measure => simp [intOf]; omega
    · obtain rfl : k = l.length := by omega
      have hz : Hid (N = l.length) := by
        have := hr.out
        rw [List.drop_length, idleN_nil] at this
        exact this.symm
      go_wp2_with fail
      go_ret
      exact ⟨ret_int (by rw [hz.out]), rfl⟩
end Go.Proofs.YtganlldidjbpiaaGreatDoor
