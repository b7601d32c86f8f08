/- Journal, walks of the reference: Line. -/
import Derived.Test.YtpaoeeamlinaaaaGreatDoorQJV7
import Derived.Test.YtpaoeeamlinaaaaGreatDoorK08
set_option linter.unusedVariables false
namespace Go.Proofs.YtpaoeeamlinaaaaGreatDoor
open Go.RowKit

theorem bare_len {r : Rec} (h : Bare r) : (numsOf r).length ≤ 1000 := by
  by_cases h1 : r.kind = 1
  · have hb := (bare_1 h1).1 h
    rw [nums_1 h1]
    refine planned_len ⟨hb.2.1, hb.2.2.1, ?_⟩
    rintro ⟨a, ha, hl⟩
    have := hb.2.2.2 a ha
    omega
  by_cases h2 : r.kind = 2
  · rw [nums_2 h2]; simp
  by_cases h3 : r.kind = 3
  · rw [nums_3 h3]; simp
  rw [nums_x h1 h2 h3]; simp
theorem bare_kind {r : Rec} (h : Bare r) : 1 ≤ r.kind ∧ r.kind ≤ 5 := by
  obtain ⟨k, p, i, l, a, ss, ls⟩ := r
  unfold Bare at h
  match k with
  | 0 => exact h.elim
  | 1 => simp
  | 2 => simp
  | 3 => simp
  | 4 => simp
  | 5 => simp
  | k + 6 => exact h.elim
theorem word_empty (k : Nat) : (bs (wordK k)).toList = [] ↔ ¬ (1 ≤ k ∧ k ≤ 5) := by
  rw [show (bs (wordK k)).toList = wordK k from by rw [ByteArray.toList_eq]; rfl]
  match k with
  | 0 => simp [wordK]
  | 1 => simp [wordK]
  | 2 => simp [wordK]
  | 3 => simp [wordK]
  | 4 => simp [wordK]
  | 5 => simp [wordK]
  | k + 6 => simp [wordK]
set_option maxRecDepth 100000 in
set_option maxHeartbeats 2000000 in
theorem rLine_c (w : World) (v : Value) (r : Rec) (h : IsR w v r) : Calls Tryz.prog 12 #[v] w (RetL w r) := by
  have HSM := Lib.hid h.small
  have h0 := h
  obtain ⟨hok, vs, va, rfl, h1, h2⟩ := h
  obtain ⟨pS, cS, rfl, _, _, _⟩ := h1.2.shape
  obtain ⟨pL, cL, rfl⟩ : ∃ pL cL, va = .slice pL r.after.length cL := by
    obtain ⟨_, k2, _⟩ := h2
    obtain ⟨a, b, e', _⟩ := k2.shape
    exact ⟨a, b, e'⟩
  obtain ⟨W0, hW⟩ : ∃ W0, W0 = w.alloc (.cells #[.int .u8 (r.kind : Int), .int .i64 r.place, .int .i64 r.id, .int .i64 r.lease, .int .u8 (r.ans : Int), .slice pS r.steps.length cS, .slice pL r.after.length cL] 29) := ⟨_, rfl⟩
  have hb0 : Below w.heap.size w W0 := by rw [hW]; exact held_alloc (Below.refl _ _)
  have hbx : Box W0 w.heap.size #[.int .u8 (r.kind : Int), .int .i64 r.place, .int .i64 r.id, .int .i64 r.lease, .int .u8 (r.ans : Int), .slice pS r.steps.length cS, .slice pL r.after.length cL] 29 := by rw [hW]; exact Box.new _ _ _
  have HR0 := Lib.hid (h0.after hb0)
  have HB := Lib.hid hb0
  have BX := Lib.hid hbx
  have x0 : W0.cell? ⟨w.heap.size, 0, none⟩ = some (.int .u8 (r.kind : Int)) := hbx.cell 0
  have lx := hbx.lt
  clear hok h1 h2 hb0 hbx h0
  show Calls _ _ #[.agg #[.int .u8 (r.kind : Int), .int .i64 r.place, .int .i64 r.id, .int .i64 r.lease, .int .u8 (r.ans : Int), .slice pS r.steps.length cS, .slice pL r.after.length cL]] w _
  go_enter Tryz.func12, Tryz.ntmps12
  go_upto_region 1 with fail
  rw [← hW]
  clear hW
  go_wp2_with fail
  refine (rWord_c W0 r.kind).mono ?_
  rintro e w1 ⟨rfl, hb1⟩
  have HB1 : Hid (Below w.heap.size w w1) := HB.out.trans (hb1.mono HB.out.size)
  have BX1 := Lib.hid (BX.out.after hb1)
  have HR1 := Lib.hid (HR0.out.after hb1)
  have HQ := Lib.hid (word_empty r.kind)
  obtain ⟨T, hT⟩ : ∃ T, wordK r.kind = T := ⟨_, rfl⟩
  rw [hT] at HQ ⊢
  have HT := Lib.hid hT
  have y0 : w1.cell? ⟨w.heap.size, 0, none⟩ = some (.int .u8 (r.kind : Int)) := BX1.out.cell 0
  have y1 : w1.cell? ⟨w.heap.size, 1, none⟩ = some (.int .i64 r.place) := BX1.out.cell 1
  have y2 : w1.cell? ⟨w.heap.size, 2, none⟩ = some (.int .i64 r.id) := BX1.out.cell 2
  have y3 : w1.cell? ⟨w.heap.size, 3, none⟩ = some (.int .i64 r.lease) := BX1.out.cell 3
  have y4 : w1.cell? ⟨w.heap.size, 4, none⟩ = some (.int .u8 (r.ans : Int)) := BX1.out.cell 4
  have y5 : w1.cell? ⟨w.heap.size, 5, none⟩ = some (.slice pS r.steps.length cS) := BX1.out.cell 5
  have y6 : w1.cell? ⟨w.heap.size, 6, none⟩ = some (.slice pL r.after.length cL) := BX1.out.cell 6
  have ly := BX1.out.lt
  clear hb1 x0 lx hT
  go_wp2_with fail
  refine (rNumbers_c w1 _ r HR1.out).mono ?_
  rintro e w2 ⟨vn, p, rfl, hp, hn, hb2⟩
  have HB2 : Hid (Below w.heap.size w w2) := HB1.out.trans (hb2.mono HB1.out.size)
  have HP := Lib.hid hp
  have HN := Lib.hid hn
  clear hp hn hb2 y0 y1 y2 y3 y4 y5 y6 ly
  by_cases hbare : Bare r
  rotate_left
  · have HL := Lib.hid (lineF_no (r := r) (fun hc => hbare hc.1.1))
    by_cases hk : 1 ≤ r.kind ∧ r.kind ≤ 5
    · obtain rfl : p = false := by rw [HP.out hk]; exact decide_eq_false hbare
      have q1 : ¬ (bs T).toList = [] := fun e => HQ.out.1 e hk
      have q2 : (bs T).toList.isEmpty = false := by rw [Bool.eq_false_iff]; intro e; exact q1 (List.isEmpty_iff.1 e)
      clear hbare hk
      go_wp2_with fail
      go_ret2
      exact ⟨by rw [HL.out]; rfl, HB2.out⟩
    · have q1 : (bs T).toList = [] := HQ.out.2 hk
      have q2 : (bs T).toList.isEmpty = true := by rw [q1]; rfl
      clear hbare hk
      go_wp2_with fail
      go_ret2
      exact ⟨by rw [HL.out]; rfl, HB2.out⟩
  have HBA := Lib.hid hbare
  have q1 : ¬ (bs T).toList = [] := fun e => HQ.out.1 e (bare_kind hbare)
  have q2 : (bs T).toList.isEmpty = false := by rw [Bool.eq_false_iff]; intro e; exact q1 (List.isEmpty_iff.1 e)
  obtain rfl : p = true := by rw [HP.out (bare_kind hbare)]; exact decide_eq_true hbare
  have hsl := HN.out hbare
  obtain ⟨l, hl⟩ : ∃ l, numsOf r = l := ⟨_, rfl⟩
  have hll : l.length ≤ 1000 := by rw [← hl]; exact bare_len hbare
  have htl : T.length ≤ 100 := by rw [← HT.out]; exact wordK_len _
  rw [hl] at hsl
  obtain ⟨pn, cn, rfl, _, _, _⟩ := hsl.2.shape
  have HSL := Lib.hid hsl
  have HL0 := Lib.hid hl
  have HLL := Lib.hid hll
  have HTL := Lib.hid htl
  clear hbare hsl hl hll htl
  go_wp2_with fail
  clear q1 q2
  go_loopg [4, 7] l.length (fun g s t wx => ∃ (i : Nat) (st : List UInt8), i ≤ l.length ∧ g = l.length - i ∧ s = .string (bs st) ∧ t = .int .i64 (i : Int) ∧ Hid (st = T ++ spaced (l.take i)) ∧ Hid (∀ z ∈ l.take i, InR z) ∧ Hid (Below w2.heap.size w2 wx))
  case atStart => exact ⟨0, T, Nat.zero_le _, rfl, rfl, rfl, (by show _ = _; simp [spaced]), (fun z hz => by simp at hz), Below.refl _ _⟩
  case round =>
    obtain ⟨i, st, hi, rfl, rfl, rfl, hst, hin, hbl⟩ := hrel
    have HST0 : Hid (st.length ≤ 9000) := by
      show _ ≤ _
      have h1 := spaced_len hin.out
      have h2 := HLL.out
      have h3 := HTL.out
      rw [List.length_take] at h1
      rw [hst.out, List.length_append]
      omega
    by_cases hlt : i < l.length
    · obtain ⟨ba, oa, ca, ea, _, _, la, hca⟩ := (HSL.out.2.after hbl.out).at_ (by omega)
      injection ea with ea _ ec
      subst ea ec
      have a0 : wr.cell? ⟨ba, oa + i, none⟩ = some (.int .i64 (l.getD i 0)) := by have := hca i hlt 0 (by omega); simpa using this
      have il : (i : Int) < (l.length : Int) := by omega
      have i0 : (0 : Int) ≤ (i : Int) := by omega
      have HSP := Lib.hid (spaced_take l i hlt)
      have HMEM : Hid (l.getD i 0 ∈ l) := by
        rw [List.getD_eq_getElem?_getD, List.getElem?_eq_getElem hlt]; exact List.getElem_mem hlt
      have HTK : Hid (∀ x ∈ l.take (i + 1), x ∈ l.take i ∨ x = l.getD i 0) := fun x hx => by
        rw [List.take_succ_eq_append_getElem hlt] at hx
        rcases List.mem_append.1 hx with hx | hx
        · exact .inl hx
        · right
          rw [List.getD_eq_getElem?_getD, List.getElem?_eq_getElem hlt]
          exact List.mem_singleton.1 hx
      obtain ⟨z, hz⟩ : ∃ z, l.getD i 0 = z := ⟨_, rfl⟩
      rw [hz] at a0 HSP HMEM HTK
      clear hca hz
      by_cases hz0 : z < 0
      · have e1 : decide (z < 0) = true := decide_eq_true hz0
        have HL : Hid (lineF r = ([], 1)) := lineF_no (fun hc => by have := (hc.2 z (by rw [HL0.out]; exact HMEM.out)).1; omega)
        go_wp2_with fail
        go_ret2
        exact ⟨by rw [HL.out]; rfl, HB2.out.trans (hbl.out.mono HB2.out.size)⟩
      by_cases hz1 : 1000000 < z
      · have e1 : decide (z < 0) = false := decide_eq_false hz0
        have e2 : decide (1000000 < z) = true := decide_eq_true hz1
        have HL : Hid (lineF r = ([], 1)) := lineF_no (fun hc => by have := (hc.2 z (by rw [HL0.out]; exact HMEM.out)).2; omega)
        go_wp2_with fail
        go_ret2
        exact ⟨by rw [HL.out]; rfl, HB2.out.trans (hbl.out.mono HB2.out.size)⟩
      obtain ⟨n, rfl⟩ : ∃ n : Nat, z = (n : Int) := ⟨z.toNat, by omega⟩
      rw [Int.toNat_natCast] at HSP
      have hn1 : n ≤ 1000000 := by omega
      obtain ⟨d, hd⟩ : ∃ d, dd n = d := ⟨_, rfl⟩
      have HDG : Hid (Calls Tryz.prog 23 #[.int .i64 (n : Int)] wr fun e w' => e = .returned (.string (bs d)) ∧ Below wr.heap.size wr w') := by
        rw [← hd]; exact rDigits_c wr n (by omega)
      have hdl : d.length ≤ 7 := by rw [← hd]; exact dd_len 7 _ (by decide) (by omega)
      rw [hd] at HSP
      obtain ⟨s1, hs1⟩ : ∃ s1, st ++ [32] = s1 := ⟨_, rfl⟩
      obtain ⟨s2, hs2⟩ : ∃ s2, s1 ++ d = s2 := ⟨_, rfl⟩
      have c1 : bs st ++ (⟨#[32]⟩ : ByteArray) = bs s1 := by rw [← hs1]; exact append_bs st [32]
      have c2 : bs s1 ++ bs d = bs s2 := by rw [← hs2]; exact append_bs s1 d
      have b0 := bs_size st
      have b1 := bs_size s1
      have b2 := bs_size d
      have l0 : st.length ≤ 9000 := HST0.out
      have l1 : s1.length ≤ 10000 := by rw [← hs1, List.length_append]; simp; omega
      have HS2 : Hid (s2 = T ++ spaced (l.take (i + 1))) := by show _ = _; rw [HSP.out, ← hs2, ← hs1, hst.out]; simp
      clear hd hs1 hs2
      go_wp2_with fail
      refine HDG.out.mono ?_
      rintro e w3 ⟨rfl, hb3⟩
      have HB3 : Hid (Below w2.heap.size w2 w3) := hbl.out.trans (hb3.mono hbl.out.size)
      clear hb3 a0
      go_wp2_with fail
      go_roundg (l.length - (i + 1))
      case measure => omega
      case rel =>
        refine ⟨i + 1, s2, by omega, rfl, rfl, by go_num, HS2.out, fun x hx => ?_, HB3.out⟩
        rcases HTK.out x hx with h | h
        · exact hin.out x h
        · rw [h]; constructor <;> omega
    · obtain rfl : i = l.length := by omega
      have HF0 : Hid (st ++ [32] = frontT r) := by
        show _ = _
        rw [hst.out, List.take_length]
        unfold frontT
        rw [HL0.out, HT.out]
        simp
      have HCAN : Hid (CanW r) := ⟨⟨HBA.out, HSM.out⟩, fun z hz => hin.out z (by rw [List.take_length]; rw [HL0.out] at hz; exact hz)⟩
      have HL := Lib.hid (lineF_yes HCAN.out)
      clear hst hin hlt
      obtain ⟨f, hf⟩ : ∃ f, st ++ [32] = f := ⟨_, rfl⟩
      have l0 : st.length ≤ 9000 := HST0.out
      have lf : f.length ≤ 10000 := by rw [← hf, List.length_append]; simp; omega
      have cf : bs st ++ (⟨#[32]⟩ : ByteArray) = bs f := by rw [← hf]; exact append_bs st [32]
      obtain ⟨n, hn⟩ : ∃ n, sumT f = n := ⟨_, rfl⟩
      have hn0 : n < 9973 := by rw [← hn]; exact sumT_lt f
      obtain ⟨d, hd⟩ : ∃ d, dd n = d := ⟨_, rfl⟩
      have hdl : d.length ≤ 4 := by rw [← hd, ← hn]; exact sum_digits f
      obtain ⟨g1, hg1⟩ : ∃ g1, f ++ [35] = g1 := ⟨_, rfl⟩
      obtain ⟨g2, hg2⟩ : ∃ g2, g1 ++ d = g2 := ⟨_, rfl⟩
      obtain ⟨g3, hg3⟩ : ∃ g3, g2 ++ [10] = g3 := ⟨_, rfl⟩
      have c1 : bs f ++ (⟨#[35]⟩ : ByteArray) = bs g1 := by rw [← hg1]; exact append_bs f [35]
      have c2 : bs g1 ++ bs d = bs g2 := by rw [← hg2]; exact append_bs g1 d
      have c3 : bs g2 ++ (⟨#[10]⟩ : ByteArray) = bs g3 := by rw [← hg3]; exact append_bs g2 [10]
      have b0 := bs_size st
      have b1 := bs_size f
      have b2 := bs_size g1
      have b3 := bs_size g2
      have b4 := bs_size d
      have l1 : g1.length ≤ 30000 := by rw [← hg1, List.length_append]; simp; omega
      have l2 : g2.length ≤ 40000 := by rw [← hg2, List.length_append]; omega
      have HG : Hid (g3 = lineT r) := by
        show _ = _
        unfold lineT
        rw [← HF0.out, ← hg3, ← hg2, ← hg1, hf, hn, hd]
        simp
      have HSU : Hid (Calls Tryz.prog 14 #[.string (bs f)] wr fun e w' => e = .returned (.int .i64 (n : Int)) ∧ Below wr.heap.size wr w') := by
        rw [← hn]; exact rSum_c wr f (by omega)
      have HDG : Hid (∀ wx, Calls Tryz.prog 23 #[.int .i64 (n : Int)] wx fun e w' => e = .returned (.string (bs d)) ∧ Below wx.heap.size wx w') := by
        intro wx; rw [← hd]; exact rDigits_c wx n (by omega)
      clear hf hn hd hg1 hg2 hg3
      go_wp2_with fail
      refine HSU.out.mono ?_
      rintro e w3 ⟨rfl, hb3⟩
      have HB3 : Hid (Below w2.heap.size w2 w3) := hbl.out.trans (hb3.mono hbl.out.size)
      clear hb3
      go_wp2_with fail
      refine (HDG.out w3).mono ?_
      rintro e w4 ⟨rfl, hb4⟩
      have HB4 : Hid (Below w2.heap.size w2 w4) := HB3.out.trans (hb4.mono HB3.out.size)
      clear hb4
      go_wp2_with fail
      go_ret2
      exact ⟨by rw [HL.out, HG.out]; rfl, HB2.out.trans (HB4.out.mono HB2.out.size)⟩
end Go.Proofs.YtpaoeeamlinaaaaGreatDoor
