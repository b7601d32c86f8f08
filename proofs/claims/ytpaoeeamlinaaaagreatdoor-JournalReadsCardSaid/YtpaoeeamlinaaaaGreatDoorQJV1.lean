/- Journal, walks of the reference: Sum, Digits, word. -/
import Derived.Test.YtpaoeeamlinaaaaGreatDoorK08
set_option linter.unusedVariables false
namespace Go.Proofs.YtpaoeeamlinaaaaGreatDoor
open Go.RowKit

theorem bs_get {s : List UInt8} {i : Nat} (h : i < (bs s).size) : (bs s)[i] = s[i]'(by rw [bs_size] at h; exact h) := rfl
set_option maxRecDepth 100000 in
set_option maxHeartbeats 2000000 in
theorem rSum_c (w : World) (s : List UInt8) (hs : s.length ≤ 1000000) : Calls Tryz.prog 14 #[.string (bs s)] w fun e w' => e = .returned (.int .i64 (sumT s : Int)) ∧ Below w.heap.size w w' := by
  obtain ⟨S, hS⟩ : ∃ S, sumT s = S := ⟨_, rfl⟩
  rw [hS]
  have h0 : Hid (sumGo 0 0 (s.drop 0) = S) := hS
  have hsz := bs_size s
  clear hS
  go_enter Tryz.func14, Tryz.ntmps14
  go_wp2_with fail
  go_loopg [3, 4] s.length (fun g t3 t4 wx => ∃ i n : Nat, i ≤ s.length ∧ n < 9973 ∧ g = s.length - i ∧ t3 = .int .i64 (n : Int) ∧ t4 = .int .i64 (i : Int) ∧ Hid (sumGo i n (s.drop i) = S) ∧ wx = w)
  case atStart => exact ⟨0, 0, Nat.zero_le _, by decide, rfl, rfl, rfl, h0, rfl⟩
  case round =>
    obtain ⟨i, n, hi, hn, rfl, rfl, rfl, hsum, hwx⟩ := hrel
    subst hwx
    by_cases hlt : i < s.length
    · obtain ⟨c, hcc⟩ : ∃ c, (s[i]).toNat = c := ⟨_, rfl⟩
      have hc256 : c < 256 := by rw [← hcc]; exact (s[i]).toNat_lt
      have hst := sumGo_step s i i n hlt
      have hli : i < (bs s).size := by rw [hsz]; exact hlt
      have hget : ((bs s)[i]).toNat = c := hcc
      rw [hcc] at hst
      rw [hsum.out] at hst
      have HS := Lib.hid hst
      clear hst hcc
      have il : (i : Int) < (s.length : Int) := by omega
      have i0 : (0 : Int) ≤ (i : Int) := by omega
      have b1 : (i + 1) % 9973 * c ≤ 9973 * 256 := Nat.mul_le_mul (Nat.le_of_lt (Nat.mod_lt _ (by decide))) (Nat.le_of_lt hc256)
      have em : ((i : Int) + 1) % 9973 * (c : Int) = (((i + 1) % 9973 * c : Nat) : Int) := by push_cast; rfl
      obtain ⟨m, hm⟩ : ∃ m, (i + 1) % 9973 * c = m := ⟨_, rfl⟩
      rw [hm] at em b1
      have HM := Lib.hid hm
      clear hm
      go_wp2_with fail
      go_roundg (s.length - (i + 1))
      case measure => omega
      case rel =>
        refine ⟨i + 1, (n + m) % 9973, by omega, Nat.mod_lt _ (by decide), rfl, ?_, by go_num, ?_, rfl⟩
        · first | rfl | go_num | (push_cast; rfl)
        · show sumGo (i + 1) ((n + m) % 9973) (s.drop (i + 1)) = S
          rw [← HM.out]; exact HS.out.symm
    · obtain rfl : i = s.length := by omega
      have hd : Hid (n = S) := by
        have := hsum.out
        rw [List.drop_length] at this
        exact this
      have il : ¬ ((s.length : Int) < (s.length : Int)) := by omega
      go_wp2_with fail
      go_ret
      exact ⟨by rw [← show n = S from hd.out]; rfl, Below.refl _ _⟩

/-- One digit. -/
theorem digit_at (d : Nat) (hd : d < 10) : (⟨#[48, 49, 50, 51, 52, 53, 54, 55, 56, 57]⟩ : ByteArray).extract d (d + 1) = bs [UInt8.ofNat (48 + d)] := by
  have : d = 0 ∨ d = 1 ∨ d = 2 ∨ d = 3 ∨ d = 4 ∨ d = 5 ∨ d = 6 ∨ d = 7 ∨ d = 8 ∨ d = 9 := by omega
  rcases this with rfl | rfl | rfl | rfl | rfl | rfl | rfl | rfl | rfl | rfl <;> decide
set_option maxRecDepth 100000 in
set_option maxHeartbeats 2000000 in
theorem rDigits_c (w : World) (n : Nat) (hn : n ≤ 1000000000) : Calls Tryz.prog 23 #[.int .i64 (n : Int)] w fun e w' => e = .returned (.string (bs (dd n))) ∧ Below w.heap.size w w' := by
  go_enter Tryz.func23, Tryz.ntmps23
  go_wp2_with fail
  go_loopg [0, 3] n (fun g t0 t3 wx => ∃ (m : Nat) (l : List UInt8), m ≤ n ∧ g = m ∧ t0 = .int .i64 (m : Int) ∧ t3 = .string (bs l) ∧ l.length ≤ n - m ∧ Hid (dd n = dd m ++ l) ∧ wx = w)
  case atStart => exact ⟨n, [], Nat.le_refl _, rfl, rfl, rfl, by simp, by show _ = _; rw [List.append_nil], rfl⟩
  case round =>
    obtain ⟨_, l, hm, rfl, rfl, rfl, hl, hd, hwx⟩ := hrel
    subst hwx
    have hlz := bs_size l
    by_cases h9 : 9 < gk
    · have q1 : (9 : Int) < (gk : Int) := by omega
      obtain ⟨d, hdd⟩ : ∃ d, gk % 10 = d := ⟨_, rfl⟩
      have hd10 : d < 10 := by omega
      have e1 : (gk : Int) % 10 = (d : Int) := by omega
      obtain ⟨k, hk⟩ : ∃ k, gk / 10 = k := ⟨_, rfl⟩
      have e2 : (gk : Int) / 10 = (k : Int) := by omega
      have hx := digit_at d hd10
      have hc := append_bs [UInt8.ofNat (48 + d)] l
      obtain ⟨l2, hl2⟩ : ∃ l2, [UInt8.ofNat (48 + d)] ++ l = l2 := ⟨_, rfl⟩
      rw [hl2] at hc
      have hl2z : l2.length = l.length + 1 := by rw [← hl2]; simp
      have HD : Hid (dd n = dd k ++ l2) := by show _ = _; rw [hd.out, dd_big (n := gk) (by omega), hdd, hk, ← hl2, List.append_assoc]
      have HL2 := Lib.hid hl2z
      obtain ⟨x, hxn⟩ : ∃ x, [UInt8.ofNat (48 + d)] = x := ⟨_, rfl⟩
      rw [hxn] at hx hc
      have hxz : (bs x).size = 1 := by rw [← hxn]; rfl
      have hk1 : k < gk := by omega
      clear hl2 hl2z hxn
      go_wp2_with fail
      go_roundg k
      case measure => omega
      case rel => exact ⟨k, l2, by omega, rfl, rfl, rfl, by have := HL2.out; omega, HD.out, rfl⟩
    · have q1 : ¬ (9 : Int) < (gk : Int) := by omega
      have hx := digit_at gk (by omega)
      have hc := append_bs [UInt8.ofNat (48 + gk)] l
      obtain ⟨x, hxn⟩ : ∃ x, [UInt8.ofNat (48 + gk)] = x := ⟨_, rfl⟩
      have HD : Hid (dd n = x ++ l) := by show _ = _; rw [hd.out, dd_small (n := gk) (by omega), ← hxn]
      have hxz : (bs x).size = 1 := by rw [← hxn]; rfl
      rw [hxn] at hx hc
      have hm10 : gk < 10 := by omega
      clear hxn
      go_wp2_with fail
      go_ret
      exact ⟨by rw [HD.out]; rfl, Below.refl _ _⟩
set_option maxRecDepth 100000 in
set_option maxHeartbeats 2000000 in
theorem rWord_c (w : World) (k : Nat) : Calls Tryz.prog 29 #[.int .u8 (k : Int)] w fun e w' => e = .returned (.string (bs (wordK k))) ∧ Below w.heap.size w w' := by
  by_cases h1 : k = 1
  · subst h1
    go_enter Tryz.func29, Tryz.ntmps29
    go_wp2_with fail
    go_ret
    exact ⟨rfl, Below.refl _ _⟩
  have q1 : ((k : Int) == 1) = false := by rw [beq_eq_false_iff_ne]; omega
  by_cases h2 : k = 2
  · subst h2
    go_enter Tryz.func29, Tryz.ntmps29
    go_wp2_with fail
    go_ret
    exact ⟨rfl, Below.refl _ _⟩
  have q2 : ((k : Int) == 2) = false := by rw [beq_eq_false_iff_ne]; omega
  by_cases h3 : k = 3
  · subst h3
    go_enter Tryz.func29, Tryz.ntmps29
    go_wp2_with fail
    go_ret
    exact ⟨rfl, Below.refl _ _⟩
  have q3 : ((k : Int) == 3) = false := by rw [beq_eq_false_iff_ne]; omega
  by_cases h4 : k = 4
  · subst h4
    go_enter Tryz.func29, Tryz.ntmps29
    go_wp2_with fail
    go_ret
    exact ⟨rfl, Below.refl _ _⟩
  have q4 : ((k : Int) == 4) = false := by rw [beq_eq_false_iff_ne]; omega
  by_cases h5 : k = 5
  · subst h5
    go_enter Tryz.func29, Tryz.ntmps29
    go_wp2_with fail
    go_ret
    exact ⟨rfl, Below.refl _ _⟩
  have q5 : ((k : Int) == 5) = false := by rw [beq_eq_false_iff_ne]; omega
  have HW : Hid (wordK k = []) := by show _ = _; unfold wordK; split <;> first | contradiction | rfl
  go_enter Tryz.func29, Tryz.ntmps29
  go_wp2_with fail
  go_ret
  exact ⟨by rw [HW.out]; rfl, Below.refl _ _⟩
end Go.Proofs.YtpaoeeamlinaaaaGreatDoor
