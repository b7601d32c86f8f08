/- Journal: the walk of JournalRound. -/
import Derived.Test.YtpaoeeamlinaaaaGreatDoorQJL2
import Derived.Test.YtpaoeeamlinaaaaGreatDoorQJV9
import Derived.Test.YtpaoeeamlinaaaaGreatDoorQJWK
set_option linter.unusedVariables false
namespace Go.Proofs.YtpaoeeamlinaaaaGreatDoor
open Go.RowKit

theorem SlC.front {w : World} {p : Option Addr} {n c k m : Nat} {f : Nat → Nat → Value} (h : SlC w (.slice p n c) n k f) (hm : m ≤ n) : SlC w (.slice p m c) m k f := by
  obtain ⟨a, cap, e, h2, h3, h4, h5⟩ := h
  injection e with e1 _ e3
  subst e1 e3
  refine ⟨p, c, rfl, by omega, h3, h4, fun hn => ?_⟩
  obtain ⟨b, off, e, hlt, hc⟩ := h5 (by omega)
  exact ⟨b, off, e, hlt, fun i hi j hj => hc i (by omega) j hj⟩
theorem getD_take {α : Type} (l : List α) (d : α) {i m : Nat} (hi : i < m) : (l.take m).getD i d = l.getD i d := by
  rw [List.getD_eq_getElem?_getD, List.getD_eq_getElem?_getD, List.getElem?_take, if_pos hi]
theorem SlR.front {w : World} {p : Option Addr} {c m : Nat} {rs : List Rec} (h : SlR w (.slice p rs.length c) rs) (hm : m ≤ rs.length) : SlR w (.slice p m c) (rs.take m) := by
  obtain ⟨u, hu, hel⟩ := h
  have hl : (rs.take m).length = m := by rw [List.length_take]; omega
  refine ⟨u, ?_, fun i hi => ?_⟩
  · rw [hl]
    obtain ⟨a, cap, e, h2, h3, h4, h5⟩ := hu.front hm
    refine ⟨a, cap, e, h2, h3, h4, fun hn => ?_⟩
    obtain ⟨b, off, e, hlt, hc⟩ := h5 hn
    exact ⟨b, off, e, hlt, fun i hi j hj => by dsimp only; rw [getD_take rs Rec.none hi]; exact hc i hi j hj⟩
  · rw [hl] at hi
    rw [getD_take rs Rec.none hi]
    exact hel i (by omega)
set_option maxRecDepth 100000 in
set_option maxHeartbeats 2000000 in
theorem journalRound_w (w : World) (v : Value) (rs0 : List Rec) (h : SlR w v rs0) (he : Env w) : Calls Tryz.prog 5 #[v] w fun e w' => e = .returned (.bool true) ∧ Below w.heap.size w w' := by
  have HE := Lib.hid he
  obtain ⟨p, c, rfl, hc1, hc2⟩ := h.shape
  obtain ⟨m, hm⟩ : ∃ m, min rs0.length 402 = m := ⟨_, rfl⟩
  have hm1 : min (rs0.length : Int) 402 = (m : Int) := by omega
  have hm2 : m ≤ rs0.length := by omega
  have hm4 : m ≤ c := by omega
  have hm5 : (m : Int) ≤ (c : Int) := by omega
  have hm6 : (0 : Int) ≤ (m : Int) := by omega
  have h1 := h.front hm2
  obtain ⟨rs, hrs⟩ : ∃ rs, rs0.take m = rs := ⟨_, rfl⟩
  rw [hrs] at h1
  have hml : rs.length = m := by rw [← hrs, List.length_take]; omega
  subst hml
  have hm3 : rs.length ≤ 402 := by omega
  have H := Lib.hid h1
  obtain ⟨x, er, hl⟩ : ∃ x er, linesF rs = (x, er) := ⟨_, _, rfl⟩
  have HL := Lib.hid hl
  have hxl : x.length ≤ 800000 := by
    unfold linesF at hl
    split at hl
    · injection hl with hl; rw [← hl]; simp
    · rename_i h4
      split at hl
      · rename_i h5
        injection hl with hl
        rw [← hl]
        have := lines_len h5
        omega
      · injection hl with hl; rw [← hl]; simp
  have HXL := Lib.hid hxl
  have HRD : Hid (er = 0 → readF x = (rs, x.length, 0)) := fun h => by
    have := read_round (l := rs) (by rw [hl]; exact h)
    rw [hl] at this
    exact this
  have heq : ((bs x).toList == (bs x).toList) = true := by simp
  have hxz := bs_size x
  clear he h h1 hm hrs hl
  go_enter Tryz.func5, Tryz.ntmps5
  go_wp2_with fail
  clear hm1 hm2 hm4 hm5 hm6 hc1 heq hxz
  go_loopg [3] rs.length (fun g t wx => ∃ i : Nat, i ≤ rs.length ∧ g = rs.length - i ∧ t = .int .i64 (i : Int) ∧ Hid (Below w.heap.size w wx))
  case atStart => exact ⟨0, Nat.zero_le _, rfl, rfl, Below.refl _ _⟩
  case round =>
    obtain ⟨i, hi, rfl, rfl, hbl⟩ := hrel
    by_cases hlt : i < rs.length
    · obtain ⟨r, hr⟩ : ∃ r, rs.getD i Rec.none = r := ⟨_, rfl⟩
      obtain ⟨ba, oa, ca, pS, cS, pL, cL, ea, lba, ⟨y0, y1, y2, y3, y4, y5, y6⟩, hir⟩ := (H.out.after hbl.out).rec_at hlt hr
      injection ea with ea _ ec
      subst ea ec
      have HIR := Lib.hid hir
      have il : (i : Int) < (rs.length : Int) := by omega
      have i0 : (0 : Int) ≤ (i : Int) := by omega
      clear hir hr
      go_wp2_with fail
      refine (light_c wr _ r HIR.out).mono ?_
      rintro e w1 ⟨b, rfl, hb1⟩
      have HB1 : Hid (Below w.heap.size w w1) := hbl.out.trans (hb1.mono hbl.out.size)
      clear hb1 y0 y1 y2 y3 y4 y5 y6
      cases b with
      | true =>
        go_wp2_with fail
        go_roundg (rs.length - (i + 1))
        case measure => omega
        case rel => exact ⟨i + 1, by omega, rfl, by go_num, HB1.out⟩
      | false =>
        go_wp2_with fail
        refine (lives_c w1 (HE.out.after HB1.out)).mono ?_
        rintro e w3 ⟨rfl, hb3⟩
        have HB3 : Hid (Below w.heap.size w w3) := HB1.out.trans (hb3.mono HB1.out.size)
        clear hb3
        go_wp2_with fail
        go_ret
        exact ⟨rfl, HB3.out⟩
    · obtain rfl : i = rs.length := by omega
      have heq : ((bs x).toList == (bs x).toList) = true := by simp
      have hxz := bs_size x
      clear hlt
      go_wp2_with fail
      refine (Lines_c wr _ rs (H.out.after hbl.out) (HE.out.after hbl.out)).mono ?_
      unfold RetLs
      rw [HL.out]
      rintro e w1 ⟨rfl, hb1⟩
      have HB1 : Hid (Below w.heap.size w w1) := hbl.out.trans (hb1.mono hbl.out.size)
      clear hb1
      dsimp only
      go_wp2_with fail
      refine (rLines_c w1 _ rs (H.out.after HB1.out)).mono ?_
      unfold RetLs
      rw [HL.out]
      rintro e w2 ⟨rfl, hb2⟩
      have HB2 : Hid (Below w.heap.size w w2) := HB1.out.trans (hb2.mono HB1.out.size)
      clear hb2
      dsimp only
      by_cases h0 : er = 0
      · subst h0
        have HRR := Lib.hid (HRD.out rfl)
        go_wp2_with fail
        refine (Read_c w2 x (by have := HXL.out; omega) (HE.out.after HB2.out)).mono ?_
        unfold RetRd
        rw [HRR.out]
        rintro e w3 ⟨vr, rfl, hv, hb3⟩
        have HB3 : Hid (Below w.heap.size w w3) := HB2.out.trans (hb3.mono HB2.out.size)
        have HV := Lib.hid (hv.slR (fun _ _ k => k.is))
        clear hv hb3
        dsimp only
        go_wp2_with fail
        refine (rSameAll_c w3 _ vr rs rs (H.out.after HB3.out) HV.out).mono ?_
        rw [decide_eq_true (rfl : rs = rs)]
        rintro e w4 ⟨rfl, hb4⟩
        have HB4 : Hid (Below w.heap.size w w4) := HB3.out.trans (hb4.mono HB3.out.size)
        clear hb4
        go_wp2_with fail
        refine (lives_c w4 (HE.out.after HB4.out)).mono ?_
        rintro e w5 ⟨rfl, hb5⟩
        have HB5 : Hid (Below w.heap.size w w5) := HB4.out.trans (hb5.mono HB4.out.size)
        clear hb5
        go_wp2_with fail
        go_ret
        exact ⟨rfl, HB5.out⟩
      · have e0 : (er == 0) = false := by rw [beq_eq_false_iff_ne]; exact h0
        have e1 : (er != 0) = true := by rw [bne, e0]; rfl
        go_wp2_with fail
        refine (lives_c w2 (HE.out.after HB2.out)).mono ?_
        rintro e w3 ⟨rfl, hb3⟩
        have HB3 : Hid (Below w.heap.size w w3) := HB2.out.trans (hb3.mono HB2.out.size)
        clear hb3
        go_wp2_with fail
        go_ret
        exact ⟨rfl, HB3.out⟩
end Go.Proofs.YtpaoeeamlinaaaaGreatDoor
