/- Journal: the walk of JournalFronts. -/
import Derived.Test.YtpaoeeamlinaaaaGreatDoorQJL5
import Derived.Test.YtpaoeeamlinaaaaGreatDoorQJL6
set_option linter.unusedVariables false
namespace Go.Proofs.YtpaoeeamlinaaaaGreatDoor
open Go.RowKit

def flen (rs : List Rec) (i : Nat) : Nat := ((rs.take i).flatMap lineT).length
theorem flen_next (rs : List Rec) (i : Nat) (hi : i < rs.length) : flen rs (i + 1) = flen rs i + (lineT (rs.getD i Rec.none)).length := by
  unfold flen
  rw [lines_take rs i hi, List.length_append]
theorem wholeN_stop : ∀ (rs : List Rec) (k i : Nat), i ≤ rs.length → flen rs i ≤ k → (i = rs.length ∨ k < flen rs i + (lineT (rs.getD i Rec.none)).length) → wholeN rs k = (i, flen rs i)
  | [], k, i, hi, _, _ => by
    obtain rfl : i = 0 := by simpa using hi
    rfl
  | r :: l, k, 0, _, _, h => by
    rcases h with h | h
    · simp at h
    · have h' : k < (lineT r).length := by simpa [flen] using h
      unfold wholeN
      rw [if_neg (by omega)]
      rfl
  | r :: l, k, i + 1, hi, hk, h => by
    have hf : flen (r :: l) (i + 1) = (lineT r).length + flen l i := by unfold flen; simp
    rw [hf] at hk h ⊢
    have ih := wholeN_stop l (k - (lineT r).length) i (by simpa using hi) (by omega) (by
      rcases h with h | h
      · left; simpa using h
      · right
        have e : (r :: l).getD (i + 1) Rec.none = l.getD i Rec.none := by simp [List.getD_eq_getElem?_getD]
        rw [e] at h
        omega)
    unfold wholeN
    rw [if_pos (by omega), ih]
    simp [Nat.add_comm]
theorem flen_le (rs : List Rec) (i : Nat) : flen rs i ≤ (rs.flatMap lineT).length := by
  unfold flen
  have h := congrArg (fun l : List Rec => (l.flatMap lineT).length) (List.take_append_drop i rs)
  simp only [List.flatMap_append, List.length_append] at h
  omega
set_option maxRecDepth 100000 in
set_option maxHeartbeats 2000000 in
theorem journalFronts_w (w : World) (v : Value) (rs0 : List Rec) (ln : Nat) (hln : ln < 65536) (h : SlR w v rs0) (he : Env w) : Calls Tryz.prog 6 #[v, .int .u16 (ln : Int)] w fun e w' => e = .returned (.bool true) ∧ Below w.heap.size w w' := by
  have HE := Lib.hid he
  have H0 := Lib.hid h
  obtain ⟨p0, c0, rfl, _, _⟩ := h.shape
  clear h he
  go_enter Tryz.func6, Tryz.ntmps6
  go_wp2_with fail
  refine (some_c w _ rs0 H0.out).mono ?_
  rintro e w1 ⟨u, rs, rfl, hu, h20, hcan, hb1⟩
  obtain ⟨p, c, rfl, hc1, hc2⟩ := hu.shape
  have HU := Lib.hid hu
  have HCAN := Lib.hid hcan
  have HB1 := Lib.hid hb1
  obtain ⟨S, hS⟩ : ∃ S, rs.flatMap lineT = S := ⟨_, rfl⟩
  have hL : linesF rs = (S, 0) := by unfold linesF; rw [if_neg (by omega), if_pos hcan, hS]
  have HL := Lib.hid hL
  have hSl : S.length ≤ 40000 := by rw [← hS]; have := lines_len hcan; omega
  have HSS := Lib.hid hS
  have HSL := Lib.hid hSl
  clear hu hcan hb1 hS hL
  go_wp2_with fail
  refine (Lines_c w1 _ rs HU.out (HE.out.after HB1.out)).mono ?_
  unfold RetLs
  rw [HL.out]
  rintro e w2 ⟨rfl, hb2⟩
  have HB2 : Hid (Below w.heap.size w w2) := HB1.out.trans (hb2.mono HB1.out.size)
  have HU2 := Lib.hid (HU.out.after hb2)
  clear hb2
  dsimp only
  have hSz := bs_size S
  obtain ⟨k, hk⟩ : ∃ k, ln % (S.length + 1) = k := ⟨_, rfl⟩
  have hk1 : k ≤ S.length := by rw [← hk]; have := Nat.mod_lt ln (show 0 < S.length + 1 by omega); omega
  have hke : (ln : Int) % ((S.length : Int) + 1) = (k : Int) := by rw [← hk, Int.natCast_emod, Int.natCast_add]; rfl
  have hkt : (ln : Int).tmod ((S.length : Int) + 1) = (k : Int) := by rw [Int.tmod_eq_emod_of_nonneg (by omega)]; exact hke
  have hnz : ((S.length : Int) + 1 == 0) = false := by rw [beq_eq_false_iff_ne]; omega
  have hnz' : ¬ ((S.length : Int) + 1 = 0) := by omega
  obtain ⟨x, hx⟩ : ∃ x, S.take k = x := ⟨_, rfl⟩
  have hx1 : (bs S).extract 0 k = bs x := by rw [extract_front, hx]
  have HX := Lib.hid hx
  have HXL : Hid (x.length ≤ 40000) := by show _ ≤ _; rw [← hx, List.length_take]; omega
  clear hk hx
  go_wp2_with fail
  go_loopg [8, 9, 10] rs.length (fun g tm tw ti wx => ∃ i : Nat, i ≤ rs.length ∧ g = rs.length - i ∧ tm = .int .i64 (i : Int) ∧ tw = .int .i64 (flen rs i : Int) ∧ ti = .int .i64 (i : Int) ∧ flen rs i ≤ k ∧ Hid (Below w2.heap.size w2 wx))
  case atStart => exact ⟨0, Nat.zero_le _, rfl, rfl, rfl, rfl, Nat.zero_le _, Below.refl _ _⟩
  case round =>
    obtain ⟨i, hi, rfl, rfl, rfl, rfl, hfk, hbl⟩ := hrel
    have hfS := flen_le rs i
    rw [HSS.out] at hfS
    have hsl := HSL.out
    by_cases hlt : i < rs.length
    · obtain ⟨r, hr⟩ : ∃ r, rs.getD i Rec.none = r := ⟨_, rfl⟩
      obtain ⟨ba, oa, ca, pS, cS, pL, cL, ea, lba, ⟨y0, y1, y2, y3, y4, y5, y6⟩, hir⟩ := (HU2.out.after hbl.out).rec_at hlt hr
      injection ea with ea _ ec
      subst ea ec
      have HIR := Lib.hid hir
      have hnx := flen_next rs i hlt
      have hfn := flen_le rs (i + 1)
      have HST : Hid (k < flen rs i + (lineT r).length → wholeN rs k = (i, flen rs i)) := fun h => wholeN_stop rs k i hi hfk (.inr (by rw [hr]; exact h))
      have HCR : Hid (CanW r) := HCAN.out r (by rw [← hr, List.getD_eq_getElem?_getD, List.getElem?_eq_getElem hlt]; exact List.getElem_mem hlt)
      rw [HSS.out] at hfn
      rw [hr] at hnx
      obtain ⟨T, hT⟩ : ∃ T, lineT r = T := ⟨_, rfl⟩
      rw [hT] at hnx HST
      have hl : lineF r = (T, 0) := by unfold lineF; rw [if_pos HCR.out, hT]
      obtain ⟨fi, hfi⟩ : ∃ fi, flen rs i = fi := ⟨_, rfl⟩
      have HLF := Lib.hid hl
      have HNX := Lib.hid hnx
      have HFI := Lib.hid hfi
      rw [hfi] at hfk hfS HST HNX ⊢
      have hTz := bs_size T
      have il : (i : Int) < (rs.length : Int) := by omega
      have i0 : (0 : Int) ≤ (i : Int) := by omega
      have hTl : fi + T.length ≤ 40000 := by rw [← HNX.out]; omega
      clear hir hr hnx hfn hT hl hfi
      go_wp2_with fail
      refine (Line_c wr _ r HIR.out (HE.out.after (HB2.out.trans (hbl.out.mono HB2.out.size)))).mono ?_
      unfold RetL
      rw [HLF.out]
      rintro e w3 ⟨rfl, hb3⟩
      have HB3 : Hid (Below w2.heap.size w2 w3) := hbl.out.trans (hb3.mono hbl.out.size)
      clear hb3 y0 y1 y2 y3 y4 y5 y6
      dsimp only
      by_cases hgt : k < fi + T.length
      · have HW := Lib.hid (HST.out hgt)
        have q1 : (k : Int) < (fi : Int) + (T.length : Int) := by omega
        have q2 : decide ((k : Int) < (fi : Int) + (T.length : Int)) = true := decide_eq_true q1
        clear hgt
        go_wp2_with fail
        have HRD := Lib.hid (read_front HCAN.out (by omega) k)
        rw [HSS.out, HX.out, HW.out] at HRD
        dsimp only at HRD
        refine (Read_c w3 x (by have := HXL.out; omega) (HE.out.after (HB2.out.trans (HB3.out.mono HB2.out.size)))).mono ?_
        unfold RetRd
        rw [HRD.out]
        rintro e w4 ⟨vr, rfl, hv, hb4⟩
        have HB4 : Hid (Below w2.heap.size w2 w4) := HB3.out.trans (hb4.mono HB3.out.size)
        have HV := Lib.hid (hv.slR (fun _ _ k => k.is))
        have HUF := Lib.hid ((HU2.out.after HB4.out).front (m := i) (by omega))
        have qm1 : (i : Int) ≤ (c : Int) := by omega
        have qm0 : (0 : Int) ≤ (i : Int) := by omega
        clear hv hb4
        dsimp only
        go_wp2_with fail
        refine (rSameAll_c w4 vr _ (rs.take i) (rs.take i) HV.out HUF.out).mono ?_
        rw [decide_eq_true (rfl : rs.take i = rs.take i)]
        rintro e w5 ⟨rfl, hb5⟩
        have HB5 : Hid (Below w2.heap.size w2 w5) := HB4.out.trans (hb5.mono HB4.out.size)
        clear hb5
        go_wp2_with fail
        refine (lives_c w5 (HE.out.after (HB2.out.trans (HB5.out.mono HB2.out.size)))).mono ?_
        rintro e w6 ⟨rfl, hb6⟩
        have HB6 : Hid (Below w2.heap.size w2 w6) := HB5.out.trans (hb6.mono HB5.out.size)
        clear hb6
        go_wp2_with fail
        go_ret
        exact ⟨rfl, HB2.out.trans (HB6.out.mono HB2.out.size)⟩
      · have q1 : ¬ (k : Int) < (fi : Int) + (T.length : Int) := by omega
        have q2 : decide ((k : Int) < (fi : Int) + (T.length : Int)) = false := decide_eq_false q1
        have HGT := Lib.hid hgt
        clear hgt
        go_wp2_with fail
        go_roundg (rs.length - (i + 1))
        case measure => omega
        case rel => exact ⟨i + 1, by omega, rfl, by go_num, by rw [HNX.out]; go_num, by go_num, by have := HGT.out; rw [HNX.out]; omega, HB3.out⟩
    · obtain rfl : i = rs.length := by omega
      have HW := Lib.hid (wholeN_stop rs k rs.length hi hfk (.inl rfl))
      have HB3 := hbl
      obtain ⟨fi, hfi⟩ : ∃ fi, flen rs rs.length = fi := ⟨_, rfl⟩
      rw [hfi] at hfk hfS HW ⊢
      have il : ¬ (rs.length : Int) < (rs.length : Int) := by omega
      clear hlt hfi
      go_wp2_with fail
      have HRD := Lib.hid (read_front HCAN.out (by omega) k)
      rw [HSS.out, HX.out, HW.out] at HRD
      dsimp only at HRD
      refine (Read_c wr x (by have := HXL.out; omega) (HE.out.after (HB2.out.trans (HB3.out.mono HB2.out.size)))).mono ?_
      unfold RetRd
      rw [HRD.out]
      rintro e w4 ⟨vr, rfl, hv, hb4⟩
      have HB4 : Hid (Below w2.heap.size w2 w4) := HB3.out.trans (hb4.mono HB3.out.size)
      have HV := Lib.hid (hv.slR (fun _ _ k => k.is))
      have HUF := Lib.hid ((HU2.out.after HB4.out).front (m := rs.length) (by omega))
      have qm1 : (rs.length : Int) ≤ (c : Int) := by omega
      have qm0 : (0 : Int) ≤ (rs.length : Int) := by omega
      clear hv hb4
      dsimp only
      go_wp2_with fail
      refine (rSameAll_c w4 vr _ (rs.take rs.length) (rs.take rs.length) HV.out HUF.out).mono ?_
      rw [decide_eq_true (rfl : rs.take rs.length = rs.take rs.length)]
      rintro e w5 ⟨rfl, hb5⟩
      have HB5 : Hid (Below w2.heap.size w2 w5) := HB4.out.trans (hb5.mono HB4.out.size)
      clear hb5
      go_wp2_with fail
      refine (lives_c w5 (HE.out.after (HB2.out.trans (HB5.out.mono HB2.out.size)))).mono ?_
      rintro e w6 ⟨rfl, hb6⟩
      have HB6 : Hid (Below w2.heap.size w2 w6) := HB5.out.trans (hb6.mono HB5.out.size)
      clear hb6
      go_wp2_with fail
      go_ret
      exact ⟨rfl, HB2.out.trans (HB6.out.mono HB2.out.size)⟩
end Go.Proofs.YtpaoeeamlinaaaaGreatDoor
