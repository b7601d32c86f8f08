/- Walks of the reference of lexis: classes of bytes, ends of names and numbers, the number of digits, what is skipped. -/
import Derived.Test.YtganlldidjbpiaaGreatDoorK13
set_option linter.unusedVariables false
namespace Go.Proofs.YtganlldidjbpiaaGreatDoor
open Go.RowKit

theorem rletter_c (c : UInt8) (w : World) : Calls Tryz.prog 67 #[.int .u8 (c.toNat : Int)] w fun e w' => e = .returned (.bool (isLet c)) ∧ w = w' := by
  go_enter Tryz.func67, Tryz.ntmps67
  go_wp2
  all_goals
    go_ret
    exact ⟨ret_bool (by unfold isLet; first | (symm; apply decide_eq_true; omega) | (symm; apply decide_eq_false; omega) | (apply decide_eq_decide.2; omega)), rfl⟩
theorem rdigit_c (c : UInt8) (w : World) : Calls Tryz.prog 69 #[.int .u8 (c.toNat : Int)] w fun e w' => e = .returned (.bool (isDig c)) ∧ w = w' := by
  go_enter Tryz.func69, Tryz.ntmps69
  go_wp2
  all_goals
    go_ret
    exact ⟨ret_bool (by unfold isDig; first | (symm; apply decide_eq_true; omega) | (symm; apply decide_eq_false; omega) | (apply decide_eq_decide.2; omega)), rfl⟩
theorem rblank_c (c : UInt8) (w : World) : Calls Tryz.prog 66 #[.int .u8 (c.toNat : Int)] w fun e w' => e = .returned (.bool (isBlk c)) ∧ w = w' := by
  have e0 : ((c.toNat : Int) == 32) = decide (c.toNat = 32) := beq_lit _ 32
  have e1 : ((c.toNat : Int) == 9) = decide (c.toNat = 9) := beq_lit _ 9
  have e2 : ((c.toNat : Int) == 13) = decide (c.toNat = 13) := beq_lit _ 13
  have e3 : ((c.toNat : Int) == 10) = decide (c.toNat = 10) := beq_lit _ 10
  go_enter Tryz.func66, Tryz.ntmps66
  go_wp2
  all_goals
    go_ret
    refine ⟨ret_bool ?_, rfl⟩
    unfold isBlk
    rw [Bool.eq_iff_iff]
    simp at *
    omega
theorem drop_next {l : List UInt8} {k : Nat} (h : k < l.length) : l.drop k = l[k] :: l.drop (k + 1) := List.drop_eq_getElem_cons h
theorem runN_next {p : UInt8 → Bool} {l : List UInt8} {k : Nat} (h : k < l.length) (hp : p l[k] = true) : runN p (l.drop k) = runN p (l.drop (k + 1)) + 1 := by
  rw [drop_next h, runN_pos _ _ _ hp]
theorem runN_here {p : UInt8 → Bool} {l : List UInt8} {k : Nat} (h : k < l.length) (hp : p l[k] = false) : runN p (l.drop k) = 0 := by
  rw [drop_next h, runN_zero _ _ _ hp]
theorem runN_end (p : UInt8 → Bool) (l : List UInt8) : runN p (l.drop l.length) = 0 := by rw [List.drop_length]; rfl

set_option maxHeartbeats 1000000 in
theorem rnumberEnd_c (l : List UInt8) (i : Nat) (hi : i ≤ l.length) (w : World) (hl : l.length ≤ 9223372036854775807) :
    Calls Tryz.prog 70 #[.string (bs l), .int .i64 (i : Int)] w fun e w' => e = .returned (.int .i64 ((i + runN isDig (l.drop i) : Nat) : Int)) ∧ w = w' := by
  have hs : (bs l).size = l.length := bs_size l
  obtain ⟨N, hN⟩ : ∃ N, i + runN isDig (l.drop i) = N := ⟨_, rfl⟩
  rw [hN]
  have HN := Lib.hid hN
  clear hN
  go_enter Tryz.func70, Tryz.ntmps70
  go_wp2_with fail
  go_loop [1] (fun t => ∃ k : Nat, k ≤ l.length ∧ t = .int .i64 (k : Int) ∧ Hid (k + runN isDig (l.drop k) = N)) (fun t => l.length - (intOf t).toNat)
  case atStart => exact ⟨i, hi, rfl, HN.out⟩
  case round =>
    obtain ⟨k, hk, rfl, hr⟩ := hrel
    clear HN
    by_cases hlt : k < l.length
    · have hget : (bs l)[k]'hlt = l[k] := rfl
      have hd : decide ((k : Int) < (l.length : Int)) = true := decide_eq_true (by omega)
      cases hp : isDig l[k]
      · have hz : Hid (N = k) := by
          have := hr.out
          rw [runN_here hlt hp] at this
          exact this.symm
        go_wp2_with (go_at_call 69; refine (rdigit_c l[k] _).mono ?_; rintro e w' ⟨rfl, rfl⟩; rw [hp])
        go_ret
        exact ⟨ret_int (by rw [hz.out]), rfl⟩
      · have hz : Hid (k + 1 + runN isDig (l.drop (k + 1)) = N) := by
          have := hr.out
          rw [runN_next hlt hp] at this
          show _ = _
          omega
        go_wp2_with (go_at_call 69; refine (rdigit_c l[k] _).mono ?_; rintro e w' ⟨rfl, rfl⟩; rw [hp])
        go_round
        case rel => exact ⟨k + 1, by omega, by go_num, hz.out⟩
        case measure => simp [intOf]; omega
    · obtain rfl : k = l.length := by omega
      have hz : Hid (N = l.length) := by
        have := hr.out
        rw [runN_end] at this
        exact this.symm
      go_wp2_with fail
      go_ret
      exact ⟨ret_int (by rw [hz.out]), rfl⟩
set_option maxHeartbeats 1000000 in
theorem rnameEnd_c (l : List UInt8) (i : Nat) (hi : i ≤ l.length) (w : World) (hl : l.length ≤ 9223372036854775807) :
    Calls Tryz.prog 68 #[.string (bs l), .int .i64 (i : Int)] w fun e w' => e = .returned (.int .i64 ((i + runN isIns (l.drop i) : Nat) : Int)) ∧ w = w' := by
  have hs : (bs l).size = l.length := bs_size l
  obtain ⟨N, hN⟩ : ∃ N, i + runN isIns (l.drop i) = N := ⟨_, rfl⟩
  rw [hN]
  have HN := Lib.hid hN
  clear hN
  go_enter Tryz.func68, Tryz.ntmps68
  go_wp2_with fail
  go_loop [1] (fun t => ∃ k : Nat, k ≤ l.length ∧ t = .int .i64 (k : Int) ∧ Hid (k + runN isIns (l.drop k) = N)) (fun t => l.length - (intOf t).toNat)
  case atStart => exact ⟨i, hi, rfl, HN.out⟩
  case round =>
    obtain ⟨k, hk, rfl, hr⟩ := hrel
    clear HN
    by_cases hlt : k < l.length
    · have hget : (bs l)[k]'hlt = l[k] := rfl
      have hd : decide ((k : Int) < (l.length : Int)) = true := decide_eq_true (by omega)
      by_cases hp : isIns l[k] = true
      · have hz : Hid (k + 1 + runN isIns (l.drop (k + 1)) = N) := by
          have := hr.out
          rw [runN_next hlt hp] at this
          show _ = _
          omega
        have HP := Lib.hid hp
        clear hp
        cases h1 : isLet l[k] <;> cases h2 : isDig l[k]
        · have h3 : ((((bs l)[k]'hlt).toNat : Int) == 45) = true := (beq_lit l[k].toNat 45).trans (by
            have := HP.out
            unfold isIns at this
            rw [h1, h2] at this
            simpa using this)
          go_wp2_with (first
            | (go_at_call 69; refine (rdigit_c l[k] _).mono ?_; rintro e w' ⟨rfl, rfl⟩; rw [h2])
            | (go_at_call 67; refine (rletter_c l[k] _).mono ?_; rintro e w' ⟨rfl, rfl⟩; rw [h1]))
          go_round
          case rel => exact ⟨k + 1, by omega, by go_num, hz.out⟩
          case measure => simp [intOf]; omega
        all_goals
          go_wp2_with (first
            | (go_at_call 69; refine (rdigit_c l[k] _).mono ?_; rintro e w' ⟨rfl, rfl⟩; rw [h2])
            | (go_at_call 67; refine (rletter_c l[k] _).mono ?_; rintro e w' ⟨rfl, rfl⟩; rw [h1]))
          go_round
          case rel => exact ⟨k + 1, by omega, by go_num, hz.out⟩
          case measure => simp [intOf]; omega
      · have hp' : isIns l[k] = false := by simpa using hp
        have hz : Hid (N = k) := by
          have := hr.out
          rw [runN_here hlt hp'] at this
          exact this.symm
        have h1 : isLet l[k] = false := by unfold isIns at hp'; simp at hp'; exact hp'.1.1
        have h2 : isDig l[k] = false := by unfold isIns at hp'; simp at hp'; exact hp'.1.2
        have h3 : ((((bs l)[k]'hlt).toNat : Int) == 45) = false := (beq_lit l[k].toNat 45).trans (by
          unfold isIns at hp'
          rw [h1, h2] at hp'
          simpa using hp')
        clear hp hp'
        go_wp2_with (first
          | (go_at_call 69; refine (rdigit_c l[k] _).mono ?_; rintro e w' ⟨rfl, rfl⟩; rw [h2])
          | (go_at_call 67; refine (rletter_c l[k] _).mono ?_; rintro e w' ⟨rfl, rfl⟩; rw [h1]))
        go_ret
        exact ⟨ret_int (by rw [hz.out]), rfl⟩
    · obtain rfl : k = l.length := by omega
      have hz : Hid (N = l.length) := by
        have := hr.out
        rw [runN_end] at this
        exact this.symm
      go_wp2_with fail
      go_ret
      exact ⟨ret_int (by rw [hz.out]), rfl⟩
end Go.Proofs.YtganlldidjbpiaaGreatDoor
