/- Journal, walks of the reference: Lines. -/
import Derived.Test.YtpaoeeamlinaaaaGreatDoorQJV5
import Derived.Test.YtpaoeeamlinaaaaGreatDoorQJV8
set_option linter.unusedVariables false
namespace Go.Proofs.YtpaoeeamlinaaaaGreatDoor
open Go.RowKit

/-- A record of a slice, cell by cell. -/
theorem SlR.rec_at {w : World} {v : Value} {rs : List Rec} (h : SlR w v rs) {i : Nat} (hi : i < rs.length) {r : Rec} (hr : rs.getD i Rec.none = r) :
    ∃ b off cap pS cS pL cL, v = .slice (some ⟨b, off, none⟩) rs.length cap ∧ b < w.heap.size ∧
      (w.cell? ⟨b, off + i * 7, none⟩ = some (.int .u8 (r.kind : Int)) ∧ w.cell? ⟨b, off + i * 7 + 1, none⟩ = some (.int .i64 r.place) ∧ w.cell? ⟨b, off + i * 7 + 2, none⟩ = some (.int .i64 r.id) ∧
        w.cell? ⟨b, off + i * 7 + 3, none⟩ = some (.int .i64 r.lease) ∧ w.cell? ⟨b, off + i * 7 + 4, none⟩ = some (.int .u8 (r.ans : Int)) ∧ w.cell? ⟨b, off + i * 7 + 5, none⟩ = some (.slice pS r.steps.length cS) ∧
        w.cell? ⟨b, off + i * 7 + 6, none⟩ = some (.slice pL r.after.length cL)) ∧
      IsR w (.agg #[.int .u8 (r.kind : Int), .int .i64 r.place, .int .i64 r.id, .int .i64 r.lease, .int .u8 (r.ans : Int), .slice pS r.steps.length cS, .slice pL r.after.length cL]) r := by
  obtain ⟨u, hu, hel⟩ := h
  obtain ⟨b, off, cap, e, _, _, hlt, hca⟩ := hu.at_ (by omega)
  have hi' := hel i hi
  obtain ⟨vs, va, huv⟩ : ∃ vs va, u i = (vs, va) := ⟨_, _, rfl⟩
  rw [hr, huv] at hi'
  dsimp only at hi'
  obtain ⟨⟨pS, cS, rfl⟩, ⟨pL, cL, rfl⟩⟩ := recV_slices hi'
  refine ⟨b, off, cap, pS, cS, pL, cL, e, hlt, ⟨?_, ?_, ?_, ?_, ?_, ?_, ?_⟩, hi'⟩
  · have := hca i hi 0 (by omega); rw [hr, huv] at this; exact this
  · have := hca i hi 1 (by omega); rw [hr, huv] at this; exact this
  · have := hca i hi 2 (by omega); rw [hr, huv] at this; exact this
  · have := hca i hi 3 (by omega); rw [hr, huv] at this; exact this
  · have := hca i hi 4 (by omega); rw [hr, huv] at this; exact this
  · have := hca i hi 5 (by omega); rw [hr, huv] at this; exact this
  · have := hca i hi 6 (by omega); rw [hr, huv] at this; exact this
theorem SlR.shape {w : World} {v : Value} {rs : List Rec} (h : SlR w v rs) : ∃ p c, v = .slice p rs.length c ∧ rs.length ≤ c ∧ c ≤ 9223372036854775807 := by
  obtain ⟨u, hu, _⟩ := h
  obtain ⟨p, c, e, h1, h2, _⟩ := hu.shape
  exact ⟨p, c, e, h1, h2⟩
theorem mem_take1 {rs : List Rec} {i : Nat} (hi : i < rs.length) (x : Rec) (hx : x ∈ rs.take (i + 1)) : x ∈ rs.take i ∨ x = rs.getD i Rec.none := by
  rw [List.take_succ_eq_append_getElem hi] at hx
  rcases List.mem_append.1 hx with hx | hx
  · exact .inl hx
  · right
    rw [List.getD_eq_getElem?_getD, List.getElem?_eq_getElem hi]
    exact List.mem_singleton.1 hx
set_option maxRecDepth 100000 in
set_option maxHeartbeats 2000000 in
theorem rLines_c (w : World) (v : Value) (rs : List Rec) (h : SlR w v rs) : Calls Tryz.prog 21 #[v] w (RetLs w rs) := by
  obtain ⟨p, c, rfl, _, _⟩ := h.shape
  by_cases h4 : 400 < rs.length
  · have HL : Hid (linesF rs = ([], 3)) := by show _ = _; unfold linesF; rw [if_pos h4]
    have q : decide (400 < (rs.length : Int)) = true := decide_eq_true (by omega)
    have q' : (400 : Int) < (rs.length : Int) := by omega
    clear h4 h
    go_enter Tryz.func21, Tryz.ntmps21
    go_wp2_with fail
    go_ret2
    exact ⟨by rw [HL.out]; rfl, Below.refl _ _⟩
  have q : decide (400 < (rs.length : Int)) = false := decide_eq_false (by omega)
  have q' : ¬ (400 : Int) < (rs.length : Int) := by omega
  have h4' : rs.length ≤ 400 := by omega
  have H4 := Lib.hid h4'
  have H := Lib.hid h
  clear h h4 h4'
  go_enter Tryz.func21, Tryz.ntmps21
  go_wp2_with fail
  go_loopg [4, 5] rs.length (fun g s t wx => ∃ (i : Nat) (st : List UInt8), i ≤ rs.length ∧ g = rs.length - i ∧ s = .string (bs st) ∧ t = .int .i64 (i : Int) ∧ Hid (st = (rs.take i).flatMap lineT) ∧ Hid (∀ r ∈ rs.take i, CanW r) ∧ Hid (Below w.heap.size w wx))
  case atStart => exact ⟨0, [], Nat.zero_le _, rfl, rfl, rfl, rfl, (fun r hr => by simp at hr), Below.refl _ _⟩
  case round =>
    obtain ⟨i, st, hi, rfl, rfl, rfl, hst, hcan, hbl⟩ := hrel
    have HLN : Hid (st.length ≤ 800000) := by
      have h1 := lines_len hcan.out
      have h2 := H4.out
      rw [List.length_take] at h1
      show _ ≤ _
      rw [hst.out]
      have : min i rs.length ≤ 400 := by omega
      omega
    by_cases hlt : i < rs.length
    · obtain ⟨r, hr⟩ : ∃ r, rs.getD i Rec.none = r := ⟨_, rfl⟩
      obtain ⟨ba, oa, ca, pS, cS, pL, cL, ea, lba, ⟨y0, y1, y2, y3, y4, y5, y6⟩, hir⟩ := (H.out.after hbl.out).rec_at hlt hr
      injection ea with ea _ ec
      subst ea ec
      have HIR := Lib.hid hir
      have HST := Lib.hid (lines_take rs i hlt)
      have HLI := Lib.hid (fun h => linesF_no (i := i) H4.out hlt h)
      have HTK := Lib.hid (mem_take1 hlt)
      rw [hr] at HST HLI HTK
      have il : (i : Int) < (rs.length : Int) := by omega
      have i0 : (0 : Int) ≤ (i : Int) := by omega
      clear hir hr
      go_wp2_with fail
      refine (rLine_c wr _ r HIR.out).mono ?_
      unfold RetL
      rintro e w1 ⟨rfl, hb1⟩
      have HB1 : Hid (Below w.heap.size w w1) := hbl.out.trans (hb1.mono hbl.out.size)
      clear hb1 y0 y1 y2 y3 y4 y5 y6
      by_cases hc : CanW r
      · obtain ⟨T, hT⟩ : ∃ T, lineT r = T := ⟨_, rfl⟩
        have hl : lineF r = (T, 0) := by unfold lineF; rw [if_pos hc, hT]
        have hTl : T.length ≤ 2000 := by rw [← hT]; exact lineT_len hc
        rw [hl]
        rw [hT] at HST
        have HC := Lib.hid hc
        obtain ⟨s2, hs2⟩ : ∃ s2, st ++ T = s2 := ⟨_, rfl⟩
        have c1 : bs st ++ bs T = bs s2 := by rw [← hs2]; exact append_bs st T
        have b0 := bs_size st
        have b1 := bs_size T
        have l0 : st.length ≤ 800000 := HLN.out
        have HS2 : Hid (s2 = (rs.take (i + 1)).flatMap lineT) := by show _ = _; rw [HST.out, ← hs2, hst.out]
        clear hl hT hc hs2
        dsimp only
        go_wp2_with fail
        go_roundg (rs.length - (i + 1))
        case measure => omega
        case rel =>
          refine ⟨i + 1, s2, by omega, rfl, rfl, by go_num, HS2.out, fun x hx => ?_, HB1.out⟩
          rcases HTK.out x hx with h | h
          · exact hcan.out x h
          · rw [h]; exact HC.out
      · have hl := lineF_no hc
        have HLL := Lib.hid (HLI.out hc)
        rw [hl]
        clear hc hl
        dsimp only
        go_wp2_with fail
        go_ret2
        exact ⟨by rw [HLL.out]; rfl, HB1.out⟩
    · obtain rfl : i = rs.length := by omega
      have HLL : Hid (linesF rs = (st, 0)) := by
        show _ = _
        have h1 := hcan.out
        have h2 := hst.out
        rw [List.take_length] at h1 h2
        unfold linesF
        rw [if_neg (by have := H4.out; omega), if_pos h1, h2]
      clear hlt
      go_wp2_with fail
      go_ret2
      exact ⟨by rw [HLL.out]; rfl, hbl.out⟩
end Go.Proofs.YtpaoeeamlinaaaaGreatDoor
