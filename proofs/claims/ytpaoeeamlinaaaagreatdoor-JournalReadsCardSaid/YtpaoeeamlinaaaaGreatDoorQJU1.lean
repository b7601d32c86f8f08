/- Journal, walks of the reference: number. -/
import Derived.Test.YtpaoeeamlinaaaaGreatDoorQJV1
import Derived.Test.YtpaoeeamlinaaaaGreatDoorK09
set_option linter.unusedVariables false
namespace Go.Proofs.YtpaoeeamlinaaaaGreatDoor
open Go.RowKit

/-- The number of a word; -1: it is none. -/
def rnum (l : List UInt8) : Int := match numF l with | none => -1 | some n => (n : Int)
theorem rnum_no {l : List UInt8} (h : l = [] ∨ 7 < l.length ∨ (l.head? = some 48 ∧ 1 < l.length) ∨ l.all isDig = false) : rnum l = -1 := by
  unfold rnum numF
  rw [if_pos h]
theorem rnum_yes {l : List UInt8} (h : ¬ (l = [] ∨ 7 < l.length ∨ (l.head? = some 48 ∧ 1 < l.length) ∨ l.all isDig = false)) : rnum l = (valD l : Int) := by
  unfold rnum numF
  rw [if_neg h]
theorem valD_take (l : List UInt8) (i : Nat) (hi : i < l.length) : valD (l.take (i + 1)) = 10 * valD (l.take i) + (l[i].toNat - 48) := by
  rw [List.take_succ_eq_append_getElem hi, valD_snoc]
theorem valD_small : ∀ (i : Nat) (l : List UInt8), (∀ c ∈ l.take i, isDig c = true) → i ≤ l.length → valD (l.take i) < 10 ^ i
  | 0, l, _, _ => by simp [valD]
  | i + 1, l, h, hi => by
    have h1 := valD_small i l (fun c hc => h c (by rw [List.take_succ_eq_append_getElem (by omega)]; exact List.mem_append_left _ hc)) (by omega)
    have h2 : isDig l[i] = true := h _ (by rw [List.take_succ_eq_append_getElem (show i < l.length by omega)]; exact List.mem_append_right _ (List.mem_singleton.2 rfl))
    have h3 : 48 ≤ l[i].toNat ∧ l[i].toNat ≤ 57 := of_decide_eq_true h2
    rw [valD_take l i (by omega), Nat.pow_succ]
    omega
set_option maxRecDepth 100000 in
set_option maxHeartbeats 2000000 in
theorem rNumber_c (w : World) (l : List UInt8) (hl : l.length ≤ 1000000) : Calls Tryz.prog 53 #[.string (bs l)] w fun e w' => e = .returned (.int .i64 (rnum l)) ∧ Below w.heap.size w w' := by
  have hsz := bs_size l
  by_cases h0 : l = []
  · have HN := Lib.hid (rnum_no (.inl h0))
    have q1 : (bs l).toList = [] := by rw [bs_list, h0]
    have q2 : (bs l).toList.isEmpty = true := by rw [q1]; rfl
    clear h0
    go_enter Tryz.func53, Tryz.ntmps53
    go_wp2_with fail
    go_ret
    exact ⟨by rw [HN.out]; rfl, Below.refl _ _⟩
  have q1 : ¬ (bs l).toList = [] := by rw [bs_list]; exact h0
  have q2 : (bs l).toList.isEmpty = false := by rw [Bool.eq_false_iff]; intro e; exact q1 (List.isEmpty_iff.1 e)
  have hlp : 0 < l.length := List.length_pos_iff.2 h0
  have HNE := Lib.hid h0
  by_cases h7 : 7 < l.length
  · have HN := Lib.hid (rnum_no (.inr (.inl h7)))
    have z1 : (7 : Int) < (l.length : Int) := by omega
    clear h0 h7
    go_enter Tryz.func53, Tryz.ntmps53
    go_wp2_with fail
    go_ret
    exact ⟨by rw [HN.out]; rfl, Below.refl _ _⟩
  have z1 : ¬ (7 : Int) < (l.length : Int) := by omega
  obtain ⟨c0, hc0⟩ : ∃ c0, (l[0]).toNat = c0 := ⟨_, rfl⟩
  have hli0 : 0 < (bs l).size := by rw [hsz]; exact hlp
  have hget0 : ((bs l)[0]).toNat = c0 := hc0
  have HHD : Hid (l.head? = some 48 ↔ c0 = 48) := by
    show _ ↔ _
    rw [← hc0, List.head?_eq_getElem?, List.getElem?_eq_getElem hlp]
    refine ⟨fun h => by rw [Option.some.inj h]; rfl, fun h => ?_⟩
    exact congrArg some (UInt8.toNat_inj.1 (show (l[0]).toNat = (48 : UInt8).toNat from h))
  have H7 := Lib.hid h7
  clear h0 h7 hc0
  by_cases hz : c0 = 48
  · have z2 : ((c0 : Int) == 48) = true := by rw [beq_iff_eq]; omega
    by_cases h1 : 1 < l.length
    · have z3 : (1 : Int) < (l.length : Int) := by omega
      have HN := Lib.hid (rnum_no (.inr (.inr (.inl ⟨HHD.out.2 hz, h1⟩))))
      clear hz h1
      go_enter Tryz.func53, Tryz.ntmps53
      go_wp2_with fail
      go_ret
      exact ⟨by rw [HN.out]; rfl, Below.refl _ _⟩
    · have z3 : ¬ (1 : Int) < (l.length : Int) := by omega
      have HNO : Hid (¬ (l.head? = some 48 ∧ 1 < l.length)) := fun h => h1 h.2
      clear hz h1
      go_enter Tryz.func53, Tryz.ntmps53
      go_wp2_with fail
      clear z2 z3 q1 q2 hget0
      go_loopg [3, 4] l.length (fun g tn ti wx => ∃ i n : Nat, i ≤ l.length ∧ g = l.length - i ∧ n ≤ 10000000 ∧ tn = .int .i64 (n : Int) ∧ ti = .int .i64 (i : Int) ∧ Hid (n = valD (l.take i)) ∧ Hid (∀ c ∈ l.take i, isDig c = true) ∧ wx = w)
      case atStart => exact ⟨0, 0, Nat.zero_le _, rfl, by omega, rfl, rfl, rfl, (fun c hc => by simp at hc), rfl⟩
      case round =>
        obtain ⟨i, n, hi, rfl, hn, rfl, rfl, hv, hd, hwx⟩ := hrel
        subst hwx
        by_cases hlt : i < l.length
        · obtain ⟨cc, hcc⟩ : ∃ cc, (l[i]).toNat = cc := ⟨_, rfl⟩
          have hc256 : cc < 256 := by rw [← hcc]; exact (l[i]).toNat_lt
          have hli : i < (bs l).size := by rw [hsz]; exact hlt
          have hget : ((bs l)[i]).toNat = cc := hcc
          have il : (i : Int) < (l.length : Int) := by omega
          have i0 : (0 : Int) ≤ (i : Int) := by omega
          have HDG : Hid (isDig l[i] = decide (48 ≤ cc ∧ cc ≤ 57)) := by show _ = _; rw [← hcc]; rfl
          have HBAD : Hid (¬ (48 ≤ cc ∧ cc ≤ 57) → rnum l = -1) := fun h => rnum_no (.inr (.inr (.inr (by
            rw [Bool.eq_false_iff]
            intro e
            have h1 := HDG.out.symm.trans (List.all_eq_true.1 e _ (List.getElem_mem hlt))
            rw [decide_eq_false h] at h1
            cases h1))))
          have HVT := Lib.hid (valD_take l i hlt)
          rw [hcc] at HVT
          have HMT : Hid (∀ c ∈ l.take (i + 1), c ∈ l.take i ∨ c = l[i]) := fun c hc => by
            rw [List.take_succ_eq_append_getElem hlt] at hc
            rcases List.mem_append.1 hc with h | h
            · exact .inl h
            · exact .inr (List.mem_singleton.1 h)
          clear hcc
          by_cases h48 : cc < 48
          · have y1 : (cc : Int) < 48 := by omega
            have HN := Lib.hid (HBAD.out (by omega))
            clear h48
            go_wp2_with fail
            go_ret
            exact ⟨by rw [HN.out]; rfl, Below.refl _ _⟩
          have y1 : ¬ (cc : Int) < 48 := by omega
          by_cases h57 : 57 < cc
          · have y2 : (57 : Int) < (cc : Int) := by omega
            have HN := Lib.hid (HBAD.out (by omega))
            clear h48 h57
            go_wp2_with fail
            go_ret
            exact ⟨by rw [HN.out]; rfl, Below.refl _ _⟩
          have y2 : ¬ (57 : Int) < (cc : Int) := by omega
          obtain ⟨dg, hdg⟩ : ∃ dg, cc - 48 = dg := ⟨_, rfl⟩
          have hdg2 : (cc : Int) - 48 = (dg : Int) := by omega
          have hdg9 : dg ≤ 9 := by omega
          have HOK : Hid (∀ c ∈ l.take (i + 1), isDig c = true) := fun c hc => by
            rcases HMT.out c hc with h | h
            · exact hd.out c h
            · rw [h, HDG.out]; exact decide_eq_true ⟨by omega, by omega⟩
          have HV2 : Hid (10 * n + dg = valD (l.take (i + 1))) := by show _ = _; rw [HVT.out, ← show n = _ from hv.out, hdg]
          have HB : Hid (10 * n + dg ≤ 10000000) := by
            show _ ≤ _
            rw [HV2.out]
            have h1 := valD_small (i + 1) l HOK.out (by omega)
            have h2 := H7.out
            have h3 : 10 ^ (i + 1) ≤ 10 ^ 7 := Nat.pow_le_pow_right (by omega) (by omega)
            omega
          clear h48 h57 hdg
          go_wp2_with fail
          go_roundg (l.length - (i + 1))
          case measure => omega
          case rel => exact ⟨i + 1, 10 * n + dg, by omega, rfl, HB.out, by go_num, by go_num, HV2.out, HOK.out, rfl⟩
        · obtain rfl : i = l.length := by omega
          have HN : Hid (rnum l = (n : Int)) := by
            show _ = _
            have h1 := hv.out
            have h2 := hd.out
            rw [List.take_length] at h1 h2
            rw [h1]
            refine rnum_yes ?_
            rintro (h | h | h | h)
            · exact HNE.out h
            · exact H7.out h
            · exact HNO.out h
            · rw [List.all_eq_true.2 h2] at h; cases h
          have il : ¬ (l.length : Int) < (l.length : Int) := by omega
          clear hlt
          go_wp2_with fail
          go_ret
          exact ⟨by rw [HN.out]; rfl, Below.refl _ _⟩
  · have z2 : ((c0 : Int) == 48) = false := by rw [beq_eq_false_iff_ne]; omega
    have HNO : Hid (¬ (l.head? = some 48 ∧ 1 < l.length)) := fun h => hz (HHD.out.1 h.1)
    clear hz
    go_enter Tryz.func53, Tryz.ntmps53
    go_wp2_with fail
    clear z2 q1 q2 hget0
    go_loopg [3, 4] l.length (fun g tn ti wx => ∃ i n : Nat, i ≤ l.length ∧ g = l.length - i ∧ n ≤ 10000000 ∧ tn = .int .i64 (n : Int) ∧ ti = .int .i64 (i : Int) ∧ Hid (n = valD (l.take i)) ∧ Hid (∀ c ∈ l.take i, isDig c = true) ∧ wx = w)
    case atStart => exact ⟨0, 0, Nat.zero_le _, rfl, by omega, rfl, rfl, rfl, (fun c hc => by simp at hc), rfl⟩
    case round =>
      obtain ⟨i, n, hi, rfl, hn, rfl, rfl, hv, hd, hwx⟩ := hrel
      subst hwx
      by_cases hlt : i < l.length
      · obtain ⟨cc, hcc⟩ : ∃ cc, (l[i]).toNat = cc := ⟨_, rfl⟩
        have hc256 : cc < 256 := by rw [← hcc]; exact (l[i]).toNat_lt
        have hli : i < (bs l).size := by rw [hsz]; exact hlt
        have hget : ((bs l)[i]).toNat = cc := hcc
        have il : (i : Int) < (l.length : Int) := by omega
        have i0 : (0 : Int) ≤ (i : Int) := by omega
        have HDG : Hid (isDig l[i] = decide (48 ≤ cc ∧ cc ≤ 57)) := by show _ = _; rw [← hcc]; rfl
        have HBAD : Hid (¬ (48 ≤ cc ∧ cc ≤ 57) → rnum l = -1) := fun h => rnum_no (.inr (.inr (.inr (by
          rw [Bool.eq_false_iff]
          intro e
          have h1 := HDG.out.symm.trans (List.all_eq_true.1 e _ (List.getElem_mem hlt))
          rw [decide_eq_false h] at h1
          cases h1))))
        have HVT := Lib.hid (valD_take l i hlt)
        rw [hcc] at HVT
        have HMT : Hid (∀ c ∈ l.take (i + 1), c ∈ l.take i ∨ c = l[i]) := fun c hc => by
          rw [List.take_succ_eq_append_getElem hlt] at hc
          rcases List.mem_append.1 hc with h | h
          · exact .inl h
          · exact .inr (List.mem_singleton.1 h)
        clear hcc
        by_cases h48 : cc < 48
        · have y1 : (cc : Int) < 48 := by omega
          have HN := Lib.hid (HBAD.out (by omega))
          clear h48
          go_wp2_with fail
          go_ret
          exact ⟨by rw [HN.out]; rfl, Below.refl _ _⟩
        have y1 : ¬ (cc : Int) < 48 := by omega
        by_cases h57 : 57 < cc
        · have y2 : (57 : Int) < (cc : Int) := by omega
          have HN := Lib.hid (HBAD.out (by omega))
          clear h48 h57
          go_wp2_with fail
          go_ret
          exact ⟨by rw [HN.out]; rfl, Below.refl _ _⟩
        have y2 : ¬ (57 : Int) < (cc : Int) := by omega
        obtain ⟨dg, hdg⟩ : ∃ dg, cc - 48 = dg := ⟨_, rfl⟩
        have hdg2 : (cc : Int) - 48 = (dg : Int) := by omega
        have hdg9 : dg ≤ 9 := by omega
        have HOK : Hid (∀ c ∈ l.take (i + 1), isDig c = true) := fun c hc => by
          rcases HMT.out c hc with h | h
          · exact hd.out c h
          · rw [h, HDG.out]; exact decide_eq_true ⟨by omega, by omega⟩
        have HV2 : Hid (10 * n + dg = valD (l.take (i + 1))) := by show _ = _; rw [HVT.out, ← show n = _ from hv.out, hdg]
        have HB : Hid (10 * n + dg ≤ 10000000) := by
          show _ ≤ _
          rw [HV2.out]
          have h1 := valD_small (i + 1) l HOK.out (by omega)
          have h2 := H7.out
          have h3 : 10 ^ (i + 1) ≤ 10 ^ 7 := Nat.pow_le_pow_right (by omega) (by omega)
          omega
        clear h48 h57 hdg
        go_wp2_with fail
        go_roundg (l.length - (i + 1))
        case measure => omega
        case rel => exact ⟨i + 1, 10 * n + dg, by omega, rfl, HB.out, by go_num, by go_num, HV2.out, HOK.out, rfl⟩
      · obtain rfl : i = l.length := by omega
        have HN : Hid (rnum l = (n : Int)) := by
          show _ = _
          have h1 := hv.out
          have h2 := hd.out
          rw [List.take_length] at h1 h2
          rw [h1]
          refine rnum_yes ?_
          rintro (h | h | h | h)
          · exact HNE.out h
          · exact H7.out h
          · exact HNO.out h
          · rw [List.all_eq_true.2 h2] at h; cases h
        have il : ¬ (l.length : Int) < (l.length : Int) := by omega
        clear hlt
        go_wp2_with fail
        go_ret
        exact ⟨by rw [HN.out]; rfl, Below.refl _ _⟩
end Go.Proofs.YtpaoeeamlinaaaaGreatDoor
