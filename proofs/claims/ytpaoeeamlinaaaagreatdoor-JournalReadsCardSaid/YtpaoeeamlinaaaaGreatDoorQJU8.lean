/- Journal, walks of the reference: record. -/
import Derived.StillTailTactics
import Derived.Test.YtpaoeeamlinaaaaGreatDoorQJU2
import Derived.Test.YtpaoeeamlinaaaaGreatDoorQJU4
import Derived.Test.YtpaoeeamlinaaaaGreatDoorQJU7
set_option linter.unusedVariables false
namespace Go.Proofs.YtpaoeeamlinaaaaGreatDoor
open Go.RowKit

theorem fld_small : ∀ l : List UInt8, (∀ x ∈ fld l, x.length ≤ l.length) ∧ 0 < (fld l).length ∧ (fld l).length ≤ l.length + 1
  | [] => ⟨fun x hx => by simp [fld] at hx; simp [hx], by simp [fld], by simp [fld]⟩
  | c :: l => by
    obtain ⟨h1, h2, h3⟩ := fld_small l
    unfold fld
    by_cases hc : c = 32
    · rw [if_pos hc]
      refine ⟨fun x hx => ?_, by simp, by simpa using h3⟩
      rcases List.mem_cons.1 hx with rfl | h
      · simp
      · have := h1 x h; simp; omega
    · rw [if_neg hc]
      rcases he : fld l with _ | ⟨a, xs⟩
      · rw [he] at h2; simp at h2
      · rw [he] at h1 h3
        refine ⟨fun x hx => ?_, by simp, by simp at h3 ⊢; omega⟩
        rcases List.mem_cons.1 hx with rfl | h
        · have := h1 a (by simp); simp; omega
        · have := h1 x (by simp [h]); simp; omega
theorem rnum_dd {z : Int} (h : InR z) : rnum (dd z.toNat) = z := by
  have h1 := h.1
  have h2 := h.2
  unfold rnum
  rw [numF_dd (by omega)]
  show ((z.toNat : Nat) : Int) = z
  omega
theorem rnum_le (l : List UInt8) : rnum l ≤ 10000000 := by
  unfold rnum
  rcases h : numF l with _ | n
  · simp
  · have := numF_lt h
    show (n : Int) ≤ _
    omega
theorem rec_all {front : List UInt8} {ws : List (List UInt8)} (h : fld front = ws) (r0 : Rec) (hc : CanW r0) (e : front = frontT r0) : recR (ws.getD 0 []) ((midW ws (ws.length - 1)).map rnum) = r0 := by
  subst h e
  rw [midW_front]
  have h0 : (fld (frontT r0)).getD 0 [] = wordK r0.kind := by rw [fld_front]; rfl
  have h1 : ((numsOf r0).map (fun z => dd z.toNat)).map rnum = numsOf r0 := by
    rw [List.map_map]
    conv => rhs; rw [← List.map_id (numsOf r0)]
    exact List.map_congr_left (fun z hz => rnum_dd (hc.2 z hz))
  rw [h0, h1, recR_all hc]
theorem rec_badU {front : List UInt8} {ws : List (List UInt8)} (h : fld front = ws) (i : Nat) (h1 : 1 ≤ i) (h2 : i + 1 < ws.length) (hn : rnum (ws.getD i []) < 0) (r0 : Rec) (hc : CanW r0) (e : front = frontT r0) : False := by
  have hm : ws.getD i [] ∈ midW ws (ws.length - 1) := by
    unfold midW
    have hl : i < (ws.take (ws.length - 1)).length := by rw [List.length_take]; omega
    have e1 : ws.getD i [] = ((ws.take (ws.length - 1)).drop 1)[i - 1]'(by rw [List.length_drop]; omega) := by
      rw [List.getElem_drop, List.getElem_take, List.getD_eq_getElem?_getD, List.getElem?_eq_getElem (by omega)]
      show ws[i] = _
      congr 1
      omega
    rw [e1]
    exact List.getElem_mem _
  subst h e
  rw [midW_front] at hm
  obtain ⟨z, hz, e⟩ := List.mem_map.1 hm
  have hz' := hc.2 z hz
  have := rnum_dd hz'
  rw [e] at this
  have := hz'.1
  omega
theorem slI_flds {w : World} {v : Value} {ws : List (List UInt8)} {i : Nat} : (ws.getD i []) = ws.getD i [] := rfl
theorem recOk_mk {k an : Nat} {pl id le : Int} {ss : List Stp} {ls : List (List Int)} (h1 : k < 256) (h2 : 0 ≤ pl ∧ pl ≤ 10000000) (h3 : 0 ≤ id ∧ id ≤ 10000000) (h4 : 0 ≤ le ∧ le ≤ 10000000) (h5 : an < 256) : RecOk ⟨k, pl, id, le, an, ss, ls⟩ :=
  ⟨h1, in64_small h2, in64_small h3, in64_small h4, h5⟩
/-- The end of record, at what was stored last. -/
theorem rr_end {w w' : World} {front : List UInt8} {v : Value} {r : Rec} (h1 : IsRT w' v r) (h2 : ∀ r0, CanW r0 → front = frontT r0 → r = r0) (hb : Below w.heap.size w w') : RetRr w front (.returned v) w' := ⟨v, r, rfl, h1, h2, hb⟩
set_option maxRecDepth 100000 in
set_option maxHeartbeats 4000000 in
theorem rRecord_c (w : World) (front : List UInt8) (hl : front.length ≤ 100000) :
    Calls Tryz.prog 54 #[.string (bs front)] w (RetRr w front) := by
  obtain ⟨W0, hW⟩ : ∃ W0, W0 = w.alloc (.cells #[.int .u8 0, .int .i64 0, .int .i64 0, .int .i64 0, .int .u8 0, .slice none 0 0, .slice none 0 0] 29) := ⟨_, rfl⟩
  have hb0 : Below w.heap.size w W0 := by rw [hW]; exact held_alloc (Below.refl _ _)
  have bx : Box W0 w.heap.size #[.int .u8 0, .int .i64 0, .int .i64 0, .int .i64 0, .int .u8 0, .slice none 0 0, .slice none 0 0] 29 := by rw [hW]; exact Box.new _ _ _
  have HB0 := Lib.hid hb0
  have BX := Lib.hid bx
  obtain ⟨ws, hws⟩ : ∃ ws, fld front = ws := ⟨_, rfl⟩
  obtain ⟨hw1, hwn, hwc⟩ := fld_small front
  rw [hws] at hw1 hwn hwc
  have HWL : Hid (∀ i, (ws.getD i []).length ≤ 100000) := fun i => by
    rcases Nat.lt_or_ge i ws.length with h | h
    · rw [List.getD_eq_getElem?_getD, List.getElem?_eq_getElem h]
      exact Nat.le_trans (hw1 _ (List.getElem_mem h)) hl
    · rw [List.getD_eq_getElem?_getD, List.getElem?_eq_none h]; simp
  have HALL : Hid (∀ r0, CanW r0 → front = frontT r0 → recR (ws.getD 0 []) ((midW ws (ws.length - 1)).map rnum) = r0) := rec_all hws
  have HBAD : Hid (∀ i, 1 ≤ i → i + 1 < ws.length → rnum (ws.getD i []) < 0 → ∀ r0, CanW r0 → front = frontT r0 → False) := rec_badU hws
  have HWS := Lib.hid hws
  clear hb0 bx hw1 hws
  go_enter Tryz.func54, Tryz.ntmps54
  go_upto_region 1 with fail
  rw [← hW]
  clear hW
  go_wp2_with fail
  refine (rWords_c W0 front hl).mono ?_
  rintro e w1 ⟨v, rfl, hv, hb1⟩
  rw [HWS.out] at hv
  have HB1 : Hid (Below w.heap.size w w1) := HB0.out.trans (hb1.mono HB0.out.size)
  have BX1 := Lib.hid (BX.out.after hb1)
  obtain ⟨bw, ow, cw, rfl, hnc, hcm, hbw, hc⟩ := hv.at_ hwn
  obtain ⟨nw, hnw⟩ : ∃ nw, ws.length = nw := ⟨_, rfl⟩
  have HNW := Lib.hid hnw
  have HCW : Hid (∀ i, i < nw → w1.cell? ⟨bw, ow + i, none⟩ = some (.string (bs (ws.getD i [])))) := fun i hi => by have := hc i (by omega) 0 (by omega); simpa using this
  have HBW := Lib.hid hbw
  rw [hnw] at hwn hwc hnc HALL HBAD ⊢
  clear hb1 hv hc hnw
  go_wp2_with fail
  go_loopg [4, 5] (nw - 1) (fun g o ti wx => ∃ (i : Nat) (nums : List Int), 1 ≤ i ∧ i ≤ nw ∧ (i + 1 ≤ nw ∨ i = 1) ∧ g = nw - i ∧ ti = .int .i64 (i : Int) ∧ nums.length ≤ i ∧ Hid (nums = (midW ws i).map rnum) ∧ Hid (∀ z ∈ nums, 0 ≤ z ∧ z ≤ 10000000) ∧ Hid (OwnI wx w1.heap.size o nums) ∧ Hid (Below w1.heap.size w1 wx))
  case atStart => exact ⟨1, [], Nat.le_refl _, hwn, .inr rfl, rfl, rfl, by simp, by show _ = _; cases ws <;> rfl, (fun z hz => by simp at hz), OwnI.nil _ _, Below.refl _ _⟩
  case round =>
    obtain ⟨i, nums, hi1, hin, hor, rfl, rfl, hnl, hnm, hpo, hown, hbl⟩ := hrel
    have HBL : Hid (Below w.heap.size w wr) := HB1.out.trans (hbl.out.mono HB1.out.size)
    have BXR := Lib.hid (BX1.out.after hbl.out)
    have HLW : Hid (bw < wr.heap.size) := Nat.lt_of_lt_of_le HBW.out hbl.out.size
    by_cases hlt : i + 1 < nw
    · have hiw : (i : Int) + 1 < (nw : Int) := by omega
      have hi0 : (0 : Int) ≤ (i : Int) := by omega
      have hiw2 : (i : Int) < (nw : Int) := by omega
      obtain ⟨wd, hwd⟩ : ∃ wd, ws.getD i [] = wd := ⟨_, rfl⟩
      have y0 : wr.cell? ⟨bw, ow + i, none⟩ = some (.string (bs wd)) := by rw [← hwd]; exact keep_cell hbl.out (HCW.out i (by omega))
      have yl := HLW.out
      have HWD := Lib.hid hwd
      have HWDL : Hid (wd.length ≤ 100000) := by show _ ≤ _; rw [← hwd]; exact HWL.out i
      have HLT := Lib.hid hlt
      clear hwd hlt
      go_wp2_with fail
      refine (rNumber_c wr wd (by have := HWDL.out; omega)).mono ?_
      rintro e w2 ⟨rfl, hb2⟩
      obtain ⟨z, hz⟩ : ∃ z, rnum wd = z := ⟨_, rfl⟩
      rw [hz]
      have HZ := Lib.hid hz
      have HZL : Hid (z ≤ 10000000) := by show _ ≤ _; rw [← hz]; exact rnum_le wd
      have HB2 : Hid (Below w1.heap.size w1 w2) := hbl.out.trans (hb2.mono hbl.out.size)
      have HBL2 : Hid (Below w.heap.size w w2) := HBL.out.trans (hb2.mono HBL.out.size)
      have BX2 := Lib.hid (BXR.out.after hb2)
      have HOWN2 := Lib.hid (hown.out.after hb2)
      clear hb2 y0 yl hz
      by_cases hz0 : z < 0
      · have HNO : Hid (∀ r0, CanW r0 → front = frontT r0 → Rec.none = r0) := fun r0 h e => (HBAD.out i hi1 HLT.out (by rw [HWD.out, HZ.out]; exact hz0) r0 h e).elim
        have x0 : w2.cell? ⟨w.heap.size, 0, none⟩ = some (.int .u8 0) := BX2.out.cell 0
        have x1 : w2.cell? ⟨w.heap.size, 1, none⟩ = some (.int .i64 0) := BX2.out.cell 1
        have x2 : w2.cell? ⟨w.heap.size, 2, none⟩ = some (.int .i64 0) := BX2.out.cell 2
        have x3 : w2.cell? ⟨w.heap.size, 3, none⟩ = some (.int .i64 0) := BX2.out.cell 3
        have x4 : w2.cell? ⟨w.heap.size, 4, none⟩ = some (.int .u8 0) := BX2.out.cell 4
        have x5 : w2.cell? ⟨w.heap.size, 5, none⟩ = some (.slice none 0 0) := BX2.out.cell 5
        have x6 : w2.cell? ⟨w.heap.size, 6, none⟩ = some (.slice none 0 0) := BX2.out.cell 6
        have f0 := BX2.out.frozen 0
        have f1 := BX2.out.frozen 1
        have f2 := BX2.out.frozen 2
        have f3 := BX2.out.frozen 3
        have f4 := BX2.out.frozen 4
        have f5 := BX2.out.frozen 5
        have f6 := BX2.out.frozen 6
        have xl := BX2.out.lt
        go_wp2_with fail
        have hE7 := end7 (a := .int .u8 0) (b := .int .i64 0) (c := .int .i64 0) (d := .int .i64 0) (e := .int .u8 0) (f := .slice none 0 0) (g := .slice none 0 0) BX2.out
        have hbE := below7 (a := .int .u8 0) (b := .int .i64 0) (c := .int .i64 0) (d := .int .i64 0) (e := .int .u8 0) (f := .slice none 0 0) (g := .slice none 0 0) HBL2.out (Nat.le_refl w.heap.size)
        have hfE := fx7 w2 w.heap.size (.int .u8 0) (.int .i64 0) (.int .i64 0) (.int .i64 0) (.int .u8 0) (.slice none 0 0) (.slice none 0 0)
        refine (show (∀ WE, Box WE w.heap.size #[.int .u8 0, .int .i64 0, .int .i64 0, .int .i64 0, .int .u8 0, .slice none 0 0, .slice none 0 0] 29 → Below w.heap.size w WE → Fx (fun g => g = w.heap.size) w2 WE → bodyPost Tryz.prog _ (RetRr w front) Exit.ret _ WE) → _ from fun H => H _ hE7 hbE hfE) ?_
        clear hE7 hbE hfE
        intro WE hE7 hbE hfE
        have ze0 := hE7.cell 0
        have ze1 := hE7.cell 1
        have ze2 := hE7.cell 2
        have ze3 := hE7.cell 3
        have ze4 := hE7.cell 4
        have ze5 := hE7.cell 5
        have ze6 := hE7.cell 6
        refine bodyPost_ret (v := .agg #[.int .u8 0, .int .i64 0, .int .i64 0, .int .i64 0, .int .u8 0, .slice none 0 0, .slice none 0 0]) (by simp [results, Tryz.results54, go_sem, ze0, ze1, ze2, ze3, ze4, ze5, ze6]) rfl ?_
        exact rr_end (none_is WE) HNO.out hbE

      have HZP : Hid (0 ≤ z ∧ z ≤ 10000000) := ⟨by omega, HZL.out⟩
      have HNN : Hid (nums ++ [z] = (midW ws (i + 1)).map rnum) := by
        show _ = _
        have hlt' : i < ws.length := by have h1 := HLT.out; have h2 := HNW.out; omega
        have e1 : ws[i] = wd := by rw [← HWD.out, List.getD_eq_getElem?_getD, List.getElem?_eq_getElem hlt']; rfl
        rw [midW_next hi1 hlt', List.map_append, ← hnm.out, e1]
        show _ = nums ++ [rnum wd]
        rw [HZ.out]
      have HBASE := Lib.hid HB2.out.size
      go_wp2_with (at_builtin; refine wpList_appI rfl _ _ rfl w1.heap.size _ _ nums [z] rfl (HOWN2.out.alloc _) rfl (SlI.one w2 (in64_small HZP.out)) ?d3 ?d4 ?_)
      case d3 => simp; omega
      case d4 => have h2 := HBASE.out; simp; omega
      intro v3 w3 hown3 hb3
      have HOWN3 := Lib.hid hown3
      have HB3 : Hid (Below w1.heap.size w1 w3) := (HB2.out.alloc HBASE.out _).trans hb3
      clear hown3 hb3
      go_wp2_with fail
      go_roundg (nw - (i + 1))
      case measure => have := HLT.out; omega
      case rel => exact ⟨i + 1, nums ++ [z], by omega, by have := HLT.out; omega, .inl (by have := HLT.out; omega), rfl, by go_num, by simp; omega, HNN.out, (fun y hy => (List.mem_append.1 hy).elim (hpo.out y) (fun h => by rw [List.mem_singleton.1 h]; exact HZP.out)), HOWN3.out, HB3.out⟩
    have HNM : Hid (nums = (midW ws (nw - 1)).map rnum) := by
      show _ = _
      rw [hnm.out]
      rcases hor with h | h
      · rw [show nw - 1 = i from by omega]
      · subst h
        rcases Nat.lt_or_ge 1 nw with h | h
        · rw [show nw - 1 = 1 from by omega]
        · rw [show nw - 1 = 0 from by omega]
          unfold midW
          simp
    have HRR : Hid (∀ r0, CanW r0 → front = frontT r0 → recR (ws.getD 0 []) nums = r0) := fun r0 h e => by rw [HNM.out]; exact HALL.out r0 h e
    have HNL : Hid (nums.length ≤ 100000) := by show _ ≤ _; omega
    have hiw : ¬ (i : Int) + 1 < (nw : Int) := by omega
    have hnw0 : (0 : Int) < (nw : Int) := by omega
    obtain ⟨wd, hwd⟩ : ∃ wd, ws.getD 0 [] = wd := ⟨_, rfl⟩
    rw [hwd] at HRR
    have y0 : wr.cell? ⟨bw, ow, none⟩ = some (.string (bs wd)) := by rw [← hwd]; exact keep_cell hbl.out (HCW.out 0 hwn)
    have yl := HLW.out
    clear hwd hlt hor hnm
    by_cases h1 : wd = wordK 1
    · have qs1 : ((bs wd).toList == [112, 108, 97, 110]) = true := by rw [bs_list]; exact beq_iff_eq.2 h1
      have HF : Hid (recR wd nums = ⟨1, 0, 0, 0, 0, (planX nums).1, (planX nums).2⟩) := by
        show _ = _
        unfold recR
        rw [if_pos h1]
      clear h1
      have HIT := Lib.hid hown.out.slT
      go_wp2_with fail
      refine (rPlanU_c wr _ nums HIT.out hpo.out HNL.out).mono ?_
      rintro e w4 ⟨vs, va, rfl, hs4, ha4, hb4⟩
      obtain ⟨pS, cS, rfl, _⟩ := hs4.1.2.shape
      obtain ⟨uL, huL, _⟩ := id ha4.1
      obtain ⟨pL, cL, rfl, _⟩ := huL.shape
      obtain ⟨sx, hsx⟩ : ∃ sx, (planX nums).1 = sx := ⟨_, rfl⟩
      obtain ⟨lx, hlx⟩ : ∃ lx, (planX nums).2 = lx := ⟨_, rfl⟩
      rw [hsx] at hs4 HF ⊢
      rw [hlx] at ha4 HF ⊢
      obtain ⟨nS, hnS⟩ : ∃ nS, sx.length = nS := ⟨_, rfl⟩
      obtain ⟨nL, hnL⟩ : ∃ nL, lx.length = nL := ⟨_, rfl⟩
      rw [hnS] at hs4 ⊢
      rw [hnL] at ha4 ⊢
      have HS4 := Lib.hid hs4
      have HA4 := Lib.hid ha4
      have HB4 : Hid (Below w.heap.size w w4) := HBL.out.trans (hb4.mono HBL.out.size)
      have BX4 := Lib.hid (BXR.out.after hb4)
      clear hs4 ha4 hb4 huL hsx hlx hnS hnL y0 yl
      have x0 : w4.cell? ⟨w.heap.size, 0, none⟩ = some (.int .u8 0) := BX4.out.cell 0
      have x1 : w4.cell? ⟨w.heap.size, 1, none⟩ = some (.int .i64 0) := BX4.out.cell 1
      have x2 : w4.cell? ⟨w.heap.size, 2, none⟩ = some (.int .i64 0) := BX4.out.cell 2
      have x3 : w4.cell? ⟨w.heap.size, 3, none⟩ = some (.int .i64 0) := BX4.out.cell 3
      have x4 : w4.cell? ⟨w.heap.size, 4, none⟩ = some (.int .u8 0) := BX4.out.cell 4
      have x5 : w4.cell? ⟨w.heap.size, 5, none⟩ = some (.slice none 0 0) := BX4.out.cell 5
      have x6 : w4.cell? ⟨w.heap.size, 6, none⟩ = some (.slice none 0 0) := BX4.out.cell 6
      have f0 := BX4.out.frozen 0
      have f1 := BX4.out.frozen 1
      have f2 := BX4.out.frozen 2
      have f3 := BX4.out.frozen 3
      have f4 := BX4.out.frozen 4
      have f5 := BX4.out.frozen 5
      have f6 := BX4.out.frozen 6
      have xl := BX4.out.lt
      go_wp2_with fail
      have hE7 := end7 (a := .int .u8 1) (b := .int .i64 0) (c := .int .i64 0) (d := .int .i64 0) (e := .int .u8 0) (f := .slice pS nS cS) (g := .slice pL nL cL) BX4.out
      have hbE := below7 (a := .int .u8 1) (b := .int .i64 0) (c := .int .i64 0) (d := .int .i64 0) (e := .int .u8 0) (f := .slice pS nS cS) (g := .slice pL nL cL) HB4.out (Nat.le_refl w.heap.size)
      have hfE := fx7 w4 w.heap.size (.int .u8 1) (.int .i64 0) (.int .i64 0) (.int .i64 0) (.int .u8 0) (.slice pS nS cS) (.slice pL nL cL)
      refine (show (∀ WE, Box WE w.heap.size #[.int .u8 1, .int .i64 0, .int .i64 0, .int .i64 0, .int .u8 0, .slice pS nS cS, .slice pL nL cL] 29 → Below w.heap.size w WE → Fx (fun g => g = w.heap.size) w4 WE → bodyPost Tryz.prog _ (RetRr w front) Exit.ret _ WE) → _ from fun H => H _ hE7 hbE hfE) ?_
      clear hE7 hbE hfE
      intro WE hE7 hbE hfE
      have ze0 := hE7.cell 0
      have ze1 := hE7.cell 1
      have ze2 := hE7.cell 2
      have ze3 := hE7.cell 3
      have ze4 := hE7.cell 4
      have ze5 := hE7.cell 5
      have ze6 := hE7.cell 6
      refine bodyPost_ret (v := .agg #[.int .u8 1, .int .i64 0, .int .i64 0, .int .i64 0, .int .u8 0, .slice pS nS cS, .slice pL nL cL]) (by simp [results, Tryz.results54, go_sem, ze0, ze1, ze2, ze3, ze4, ze5, ze6]) rfl ?_
      have hnp := NoP.of BX4.out.tag (by decide) (by decide) (by decide)
      exact rr_end (r := ⟨1, 0, 0, 0, 0, sx, lx⟩) ⟨recOk_mk (by decide) ⟨by decide, by decide⟩ ⟨by decide, by decide⟩ ⟨by decide, by decide⟩ (by decide), _, _, rfl, HS4.out.fx hfE hnp.2.1, HA4.out.fx hfE hnp.1 hnp.2.2⟩ (fun r0 h e => HF.out.symm.trans (HRR.out r0 h e)) hbE

    by_cases h2 : wd = wordK 2
    · have qs1 : ((bs wd).toList == [112, 108, 97, 110]) = false := by rw [bs_list]; exact beq_eq_false_iff_ne.2 h1
      have qs2 : ((bs wd).toList == [105, 110, 116, 101, 110, 116]) = true := by rw [bs_list]; exact beq_iff_eq.2 h2
      obtain ⟨po, co, rfl, _⟩ := hown.out.shape
      by_cases hn : nums.length = 3
      rotate_left
      · have HF : Hid (recR wd nums = Rec.none) := by
          show _ = _
          unfold recR
          rw [if_neg h1, if_pos h2, if_neg hn]

        have q9 : ((nums.length : Int) == 3) = false := by rw [beq_eq_false_iff_ne]; omega
        clear hn h1 h2
        have x0 : wr.cell? ⟨w.heap.size, 0, none⟩ = some (.int .u8 0) := BXR.out.cell 0
        have x1 : wr.cell? ⟨w.heap.size, 1, none⟩ = some (.int .i64 0) := BXR.out.cell 1
        have x2 : wr.cell? ⟨w.heap.size, 2, none⟩ = some (.int .i64 0) := BXR.out.cell 2
        have x3 : wr.cell? ⟨w.heap.size, 3, none⟩ = some (.int .i64 0) := BXR.out.cell 3
        have x4 : wr.cell? ⟨w.heap.size, 4, none⟩ = some (.int .u8 0) := BXR.out.cell 4
        have x5 : wr.cell? ⟨w.heap.size, 5, none⟩ = some (.slice none 0 0) := BXR.out.cell 5
        have x6 : wr.cell? ⟨w.heap.size, 6, none⟩ = some (.slice none 0 0) := BXR.out.cell 6
        have f0 := BXR.out.frozen 0
        have f1 := BXR.out.frozen 1
        have f2 := BXR.out.frozen 2
        have f3 := BXR.out.frozen 3
        have f4 := BXR.out.frozen 4
        have f5 := BXR.out.frozen 5
        have f6 := BXR.out.frozen 6
        have xl := BXR.out.lt
        go_wp2_with fail
        have hE7 := end7 (a := .int .u8 0) (b := .int .i64 0) (c := .int .i64 0) (d := .int .i64 0) (e := .int .u8 0) (f := .slice none 0 0) (g := .slice none 0 0) BXR.out
        have hbE := below7 (a := .int .u8 0) (b := .int .i64 0) (c := .int .i64 0) (d := .int .i64 0) (e := .int .u8 0) (f := .slice none 0 0) (g := .slice none 0 0) HBL.out (Nat.le_refl w.heap.size)
        have hfE := fx7 wr w.heap.size (.int .u8 0) (.int .i64 0) (.int .i64 0) (.int .i64 0) (.int .u8 0) (.slice none 0 0) (.slice none 0 0)
        refine (show (∀ WE, Box WE w.heap.size #[.int .u8 0, .int .i64 0, .int .i64 0, .int .i64 0, .int .u8 0, .slice none 0 0, .slice none 0 0] 29 → Below w.heap.size w WE → Fx (fun g => g = w.heap.size) wr WE → bodyPost Tryz.prog _ (RetRr w front) Exit.ret _ WE) → _ from fun H => H _ hE7 hbE hfE) ?_
        clear hE7 hbE hfE
        intro WE hE7 hbE hfE
        have ze0 := hE7.cell 0
        have ze1 := hE7.cell 1
        have ze2 := hE7.cell 2
        have ze3 := hE7.cell 3
        have ze4 := hE7.cell 4
        have ze5 := hE7.cell 5
        have ze6 := hE7.cell 6
        refine bodyPost_ret (v := .agg #[.int .u8 0, .int .i64 0, .int .i64 0, .int .i64 0, .int .u8 0, .slice none 0 0, .slice none 0 0]) (by simp [results, Tryz.results54, go_sem, ze0, ze1, ze2, ze3, ze4, ze5, ze6]) rfl ?_
        exact rr_end (none_is WE) (fun r0 h e => HF.out.symm.trans (HRR.out r0 h e)) hbE
      obtain ⟨a0, a1, a2, hnn⟩ : ∃ a0 a1 a2, nums = [a0, a1, a2] := by
        obtain _ | ⟨a0, _ | ⟨a1, _ | ⟨a2, _ | _⟩⟩⟩ := nums <;> simp at hn
        exact ⟨_, _, _, rfl⟩
      have HZ : Hid ((0 ≤ a0 ∧ a0 ≤ 10000000) ∧ (0 ≤ a1 ∧ a1 ≤ 10000000) ∧ (0 ≤ a2 ∧ a2 ≤ 10000000)) := ⟨hpo.out _ (by rw [hnn]; simp), hpo.out _ (by rw [hnn]; simp), hpo.out _ (by rw [hnn]; simp)⟩
      have HF : Hid (recR wd nums = ⟨2, a0, a1, a2, 0, [], []⟩) := by
        show _ = _
        unfold recR
        rw [if_neg h1, if_pos h2, if_pos hn, hnn]
        rfl
      obtain ⟨bo, oo, cc, ez, _, _, hbo, hcz⟩ := hown.out.sl.2.at_ (by rw [hnn]; simp)
      injection ez with ez _ ez3
      subst ez ez3
      have c0 : wr.cell? ⟨bo, oo, none⟩ = some (.int .i64 a0) := by have := hcz 0 (by rw [hnn]; simp) 0 (by omega); rw [hnn] at this; simpa using this
      have c1 : wr.cell? ⟨bo, oo + 1, none⟩ = some (.int .i64 a1) := by have := hcz 1 (by rw [hnn]; simp) 0 (by omega); rw [hnn] at this; simpa using this
      have c2 : wr.cell? ⟨bo, oo + 2, none⟩ = some (.int .i64 a2) := by have := hcz 2 (by rw [hnn]; simp) 0 (by omega); rw [hnn] at this; simpa using this
      have q9 : ((nums.length : Int) == 3) = true := by rw [beq_iff_eq]; omega
      have hnI : nums.length = 3 := hn
      clear hcz hnn h1 h2
      go_upto_region 15 with fail
      go_still_tail 10, (by kernel_rfl)
      change wpList _ _ _ _ _ wr.drew
      have hd0 : Below wr.heap.size wr wr.drew := below_dr (Below.refl _ _)
      obtain ⟨wx, hwx⟩ : ∃ wx : World, wr.drew = wx := ⟨_, rfl⟩
      rw [hwx] at hd0 ⊢
      clear hwx
      have BXD := Lib.hid (BXR.out.after hd0)
      have HBD : Hid (Below w.heap.size w wx) := HBL.out.trans (hd0.mono HBL.out.size)
      clear hd0 y0 yl
      have x0 : wx.cell? ⟨w.heap.size, 0, none⟩ = some (.int .u8 0) := BXD.out.cell 0
      have x1 : wx.cell? ⟨w.heap.size, 1, none⟩ = some (.int .i64 0) := BXD.out.cell 1
      have x2 : wx.cell? ⟨w.heap.size, 2, none⟩ = some (.int .i64 0) := BXD.out.cell 2
      have x3 : wx.cell? ⟨w.heap.size, 3, none⟩ = some (.int .i64 0) := BXD.out.cell 3
      have x4 : wx.cell? ⟨w.heap.size, 4, none⟩ = some (.int .u8 0) := BXD.out.cell 4
      have x5 : wx.cell? ⟨w.heap.size, 5, none⟩ = some (.slice none 0 0) := BXD.out.cell 5
      have x6 : wx.cell? ⟨w.heap.size, 6, none⟩ = some (.slice none 0 0) := BXD.out.cell 6
      have f0 := BXD.out.frozen 0
      have f1 := BXD.out.frozen 1
      have f2 := BXD.out.frozen 2
      have f3 := BXD.out.frozen 3
      have f4 := BXD.out.frozen 4
      have f5 := BXD.out.frozen 5
      have f6 := BXD.out.frozen 6
      have xl := BXD.out.lt
      go_wp2_with fail
      have hE7 := end7 (a := .int .u8 2) (b := .int .i64 a0) (c := .int .i64 a1) (d := .int .i64 a2) (e := .int .u8 0) (f := .slice none 0 0) (g := .slice none 0 0) BXD.out
      have hbE := below7 (a := .int .u8 2) (b := .int .i64 a0) (c := .int .i64 a1) (d := .int .i64 a2) (e := .int .u8 0) (f := .slice none 0 0) (g := .slice none 0 0) HBD.out (Nat.le_refl w.heap.size)
      have hfE := fx7 wx w.heap.size (.int .u8 2) (.int .i64 a0) (.int .i64 a1) (.int .i64 a2) (.int .u8 0) (.slice none 0 0) (.slice none 0 0)
      refine (show (∀ WE, Box WE w.heap.size #[.int .u8 2, .int .i64 a0, .int .i64 a1, .int .i64 a2, .int .u8 0, .slice none 0 0, .slice none 0 0] 29 → Below w.heap.size w WE → Fx (fun g => g = w.heap.size) wx WE → bodyPost Tryz.prog _ (RetRr w front) Exit.ret _ WE) → _ from fun H => H _ hE7 hbE hfE) ?_
      clear hE7 hbE hfE
      intro WE hE7 hbE hfE
      have ze0 := hE7.cell 0
      have ze1 := hE7.cell 1
      have ze2 := hE7.cell 2
      have ze3 := hE7.cell 3
      have ze4 := hE7.cell 4
      have ze5 := hE7.cell 5
      have ze6 := hE7.cell 6
      refine bodyPost_ret (v := .agg #[.int .u8 2, .int .i64 a0, .int .i64 a1, .int .i64 a2, .int .u8 0, .slice none 0 0, .slice none 0 0]) (by simp [results, Tryz.results54, go_sem, ze0, ze1, ze2, ze3, ze4, ze5, ze6]) rfl ?_
      exact rr_end (r := ⟨2, a0, a1, a2, 0, [], []⟩) ⟨recOk_mk (by decide) HZ.out.1 HZ.out.2.1 HZ.out.2.2 (by decide), _, _, rfl, SlST.nil _, SlLT.nil _⟩ (fun r0 h e => HF.out.symm.trans (HRR.out r0 h e)) hbE

    by_cases h3 : wd = wordK 3
    · have qs1 : ((bs wd).toList == [112, 108, 97, 110]) = false := by rw [bs_list]; exact beq_eq_false_iff_ne.2 h1
      have qs2 : ((bs wd).toList == [105, 110, 116, 101, 110, 116]) = false := by rw [bs_list]; exact beq_eq_false_iff_ne.2 h2
      have qs3 : ((bs wd).toList == [97, 110, 115, 119, 101, 114]) = true := by rw [bs_list]; exact beq_iff_eq.2 h3
      obtain ⟨po, co, rfl, _⟩ := hown.out.shape
      by_cases hn : nums.length = 2
      rotate_left
      · have HF : Hid (recR wd nums = Rec.none) := by
          show _ = _
          unfold recR
          rw [if_neg h1, if_neg h2, if_pos h3, if_neg hn]

        have q9 : ((nums.length : Int) == 2) = false := by rw [beq_eq_false_iff_ne]; omega
        clear hn h1 h2 h3
        have x0 : wr.cell? ⟨w.heap.size, 0, none⟩ = some (.int .u8 0) := BXR.out.cell 0
        have x1 : wr.cell? ⟨w.heap.size, 1, none⟩ = some (.int .i64 0) := BXR.out.cell 1
        have x2 : wr.cell? ⟨w.heap.size, 2, none⟩ = some (.int .i64 0) := BXR.out.cell 2
        have x3 : wr.cell? ⟨w.heap.size, 3, none⟩ = some (.int .i64 0) := BXR.out.cell 3
        have x4 : wr.cell? ⟨w.heap.size, 4, none⟩ = some (.int .u8 0) := BXR.out.cell 4
        have x5 : wr.cell? ⟨w.heap.size, 5, none⟩ = some (.slice none 0 0) := BXR.out.cell 5
        have x6 : wr.cell? ⟨w.heap.size, 6, none⟩ = some (.slice none 0 0) := BXR.out.cell 6
        have f0 := BXR.out.frozen 0
        have f1 := BXR.out.frozen 1
        have f2 := BXR.out.frozen 2
        have f3 := BXR.out.frozen 3
        have f4 := BXR.out.frozen 4
        have f5 := BXR.out.frozen 5
        have f6 := BXR.out.frozen 6
        have xl := BXR.out.lt
        go_wp2_with fail
        have hE7 := end7 (a := .int .u8 0) (b := .int .i64 0) (c := .int .i64 0) (d := .int .i64 0) (e := .int .u8 0) (f := .slice none 0 0) (g := .slice none 0 0) BXR.out
        have hbE := below7 (a := .int .u8 0) (b := .int .i64 0) (c := .int .i64 0) (d := .int .i64 0) (e := .int .u8 0) (f := .slice none 0 0) (g := .slice none 0 0) HBL.out (Nat.le_refl w.heap.size)
        have hfE := fx7 wr w.heap.size (.int .u8 0) (.int .i64 0) (.int .i64 0) (.int .i64 0) (.int .u8 0) (.slice none 0 0) (.slice none 0 0)
        refine (show (∀ WE, Box WE w.heap.size #[.int .u8 0, .int .i64 0, .int .i64 0, .int .i64 0, .int .u8 0, .slice none 0 0, .slice none 0 0] 29 → Below w.heap.size w WE → Fx (fun g => g = w.heap.size) wr WE → bodyPost Tryz.prog _ (RetRr w front) Exit.ret _ WE) → _ from fun H => H _ hE7 hbE hfE) ?_
        clear hE7 hbE hfE
        intro WE hE7 hbE hfE
        have ze0 := hE7.cell 0
        have ze1 := hE7.cell 1
        have ze2 := hE7.cell 2
        have ze3 := hE7.cell 3
        have ze4 := hE7.cell 4
        have ze5 := hE7.cell 5
        have ze6 := hE7.cell 6
        refine bodyPost_ret (v := .agg #[.int .u8 0, .int .i64 0, .int .i64 0, .int .i64 0, .int .u8 0, .slice none 0 0, .slice none 0 0]) (by simp [results, Tryz.results54, go_sem, ze0, ze1, ze2, ze3, ze4, ze5, ze6]) rfl ?_
        exact rr_end (none_is WE) (fun r0 h e => HF.out.symm.trans (HRR.out r0 h e)) hbE
      obtain ⟨a0, a1, hnn⟩ : ∃ a0 a1, nums = [a0, a1] := by
        obtain _ | ⟨a0, _ | ⟨a1, _ | ⟨a2, _ | _⟩⟩⟩ := nums <;> simp at hn
        exact ⟨_, _, rfl⟩
      have HZ : Hid ((0 ≤ a0 ∧ a0 ≤ 10000000) ∧ (0 ≤ a1 ∧ a1 ≤ 10000000)) := ⟨hpo.out _ (by rw [hnn]; simp), hpo.out _ (by rw [hnn]; simp)⟩
      obtain ⟨kd, hkd⟩ : ∃ kd : Nat, (a1 % 256).toNat = kd := ⟨_, rfl⟩
      have HZP := HZ.out.2
      have HT2 : a1 % 256 = (kd : Int) := by omega
      have HT1 : Int.tmod a1 256 = (kd : Int) := by rw [Int.tmod_eq_emod_of_nonneg HZP.1]; exact HT2
      have HK256 : Hid (kd < 256) := by show _ < _; omega
      have HK8 : IntKind.u8.wrap (kd : Int) = (kd : Int) := by rw [wrap_8]; have := HK256.out; omega
      have HKD := Lib.hid hkd
      clear HZP hkd
      have HF : Hid (recR wd nums = ⟨3, 0, a0, 0, kd, [], []⟩) := by
        show _ = _
        unfold recR
        rw [if_neg h1, if_neg h2, if_pos h3, if_pos hn, hnn]
        rw [← HKD.out]; rfl
      obtain ⟨bo, oo, cc, ez, _, _, hbo, hcz⟩ := hown.out.sl.2.at_ (by rw [hnn]; simp)
      injection ez with ez _ ez3
      subst ez ez3
      have c0 : wr.cell? ⟨bo, oo, none⟩ = some (.int .i64 a0) := by have := hcz 0 (by rw [hnn]; simp) 0 (by omega); rw [hnn] at this; simpa using this
      have c1 : wr.cell? ⟨bo, oo + 1, none⟩ = some (.int .i64 a1) := by have := hcz 1 (by rw [hnn]; simp) 0 (by omega); rw [hnn] at this; simpa using this
      have q9 : ((nums.length : Int) == 2) = true := by rw [beq_iff_eq]; omega
      have hnI : nums.length = 2 := hn
      clear hcz hnn h1 h2 h3
      go_upto_region 18 with fail
      go_still_tail 9, (by kernel_rfl)
      change wpList _ _ _ _ _ wr.drew
      have hd0 : Below wr.heap.size wr wr.drew := below_dr (Below.refl _ _)
      obtain ⟨wx, hwx⟩ : ∃ wx : World, wr.drew = wx := ⟨_, rfl⟩
      rw [hwx] at hd0 ⊢
      clear hwx
      have BXD := Lib.hid (BXR.out.after hd0)
      have HBD : Hid (Below w.heap.size w wx) := HBL.out.trans (hd0.mono HBL.out.size)
      clear hd0 y0 yl
      have x0 : wx.cell? ⟨w.heap.size, 0, none⟩ = some (.int .u8 0) := BXD.out.cell 0
      have x1 : wx.cell? ⟨w.heap.size, 1, none⟩ = some (.int .i64 0) := BXD.out.cell 1
      have x2 : wx.cell? ⟨w.heap.size, 2, none⟩ = some (.int .i64 0) := BXD.out.cell 2
      have x3 : wx.cell? ⟨w.heap.size, 3, none⟩ = some (.int .i64 0) := BXD.out.cell 3
      have x4 : wx.cell? ⟨w.heap.size, 4, none⟩ = some (.int .u8 0) := BXD.out.cell 4
      have x5 : wx.cell? ⟨w.heap.size, 5, none⟩ = some (.slice none 0 0) := BXD.out.cell 5
      have x6 : wx.cell? ⟨w.heap.size, 6, none⟩ = some (.slice none 0 0) := BXD.out.cell 6
      have f0 := BXD.out.frozen 0
      have f1 := BXD.out.frozen 1
      have f2 := BXD.out.frozen 2
      have f3 := BXD.out.frozen 3
      have f4 := BXD.out.frozen 4
      have f5 := BXD.out.frozen 5
      have f6 := BXD.out.frozen 6
      have xl := BXD.out.lt
      go_wp2_with fail
      have hE7 := end7 (a := .int .u8 3) (b := .int .i64 0) (c := .int .i64 a0) (d := .int .i64 0) (e := .int .u8 (kd : Int)) (f := .slice none 0 0) (g := .slice none 0 0) BXD.out
      have hbE := below7 (a := .int .u8 3) (b := .int .i64 0) (c := .int .i64 a0) (d := .int .i64 0) (e := .int .u8 (kd : Int)) (f := .slice none 0 0) (g := .slice none 0 0) HBD.out (Nat.le_refl w.heap.size)
      have hfE := fx7 wx w.heap.size (.int .u8 3) (.int .i64 0) (.int .i64 a0) (.int .i64 0) (.int .u8 (kd : Int)) (.slice none 0 0) (.slice none 0 0)
      refine (show (∀ WE, Box WE w.heap.size #[.int .u8 3, .int .i64 0, .int .i64 a0, .int .i64 0, .int .u8 (kd : Int), .slice none 0 0, .slice none 0 0] 29 → Below w.heap.size w WE → Fx (fun g => g = w.heap.size) wx WE → bodyPost Tryz.prog _ (RetRr w front) Exit.ret _ WE) → _ from fun H => H _ hE7 hbE hfE) ?_
      clear hE7 hbE hfE
      intro WE hE7 hbE hfE
      have ze0 := hE7.cell 0
      have ze1 := hE7.cell 1
      have ze2 := hE7.cell 2
      have ze3 := hE7.cell 3
      have ze4 := hE7.cell 4
      have ze5 := hE7.cell 5
      have ze6 := hE7.cell 6
      refine bodyPost_ret (v := .agg #[.int .u8 3, .int .i64 0, .int .i64 a0, .int .i64 0, .int .u8 (kd : Int), .slice none 0 0, .slice none 0 0]) (by simp [results, Tryz.results54, go_sem, ze0, ze1, ze2, ze3, ze4, ze5, ze6]) rfl ?_
      exact rr_end (r := ⟨3, 0, a0, 0, kd, [], []⟩) ⟨recOk_mk (by decide) ⟨by decide, by decide⟩ HZ.out.1 ⟨by decide, by decide⟩ HK256.out, _, _, rfl, SlST.nil _, SlLT.nil _⟩ (fun r0 h e => HF.out.symm.trans (HRR.out r0 h e)) hbE

    by_cases h4 : wd = wordK 4
    · have HF : Hid (recR wd nums = ⟨4, 0, 0, 0, 0, [], []⟩) := by
        show _ = _
        unfold recR
        rw [if_neg h1, if_neg h2, if_neg h3, if_pos h4]
      have qs1 : ((bs wd).toList == [112, 108, 97, 110]) = false := by rw [bs_list]; exact beq_eq_false_iff_ne.2 h1
      have qs2 : ((bs wd).toList == [105, 110, 116, 101, 110, 116]) = false := by rw [bs_list]; exact beq_eq_false_iff_ne.2 h2
      have qs3 : ((bs wd).toList == [97, 110, 115, 119, 101, 114]) = false := by rw [bs_list]; exact beq_eq_false_iff_ne.2 h3
      have qs4 : ((bs wd).toList == [115, 116, 111, 112]) = true := by rw [bs_list]; exact beq_iff_eq.2 h4
      clear h1 h2 h3 h4
      have x0 : wr.cell? ⟨w.heap.size, 0, none⟩ = some (.int .u8 0) := BXR.out.cell 0
      have x1 : wr.cell? ⟨w.heap.size, 1, none⟩ = some (.int .i64 0) := BXR.out.cell 1
      have x2 : wr.cell? ⟨w.heap.size, 2, none⟩ = some (.int .i64 0) := BXR.out.cell 2
      have x3 : wr.cell? ⟨w.heap.size, 3, none⟩ = some (.int .i64 0) := BXR.out.cell 3
      have x4 : wr.cell? ⟨w.heap.size, 4, none⟩ = some (.int .u8 0) := BXR.out.cell 4
      have x5 : wr.cell? ⟨w.heap.size, 5, none⟩ = some (.slice none 0 0) := BXR.out.cell 5
      have x6 : wr.cell? ⟨w.heap.size, 6, none⟩ = some (.slice none 0 0) := BXR.out.cell 6
      have f0 := BXR.out.frozen 0
      have f1 := BXR.out.frozen 1
      have f2 := BXR.out.frozen 2
      have f3 := BXR.out.frozen 3
      have f4 := BXR.out.frozen 4
      have f5 := BXR.out.frozen 5
      have f6 := BXR.out.frozen 6
      have xl := BXR.out.lt
      go_wp2_with fail
      have hE7 := end7 (a := .int .u8 4) (b := .int .i64 0) (c := .int .i64 0) (d := .int .i64 0) (e := .int .u8 0) (f := .slice none 0 0) (g := .slice none 0 0) BXR.out
      have hbE := below7 (a := .int .u8 4) (b := .int .i64 0) (c := .int .i64 0) (d := .int .i64 0) (e := .int .u8 0) (f := .slice none 0 0) (g := .slice none 0 0) HBL.out (Nat.le_refl w.heap.size)
      have hfE := fx7 wr w.heap.size (.int .u8 4) (.int .i64 0) (.int .i64 0) (.int .i64 0) (.int .u8 0) (.slice none 0 0) (.slice none 0 0)
      refine (show (∀ WE, Box WE w.heap.size #[.int .u8 4, .int .i64 0, .int .i64 0, .int .i64 0, .int .u8 0, .slice none 0 0, .slice none 0 0] 29 → Below w.heap.size w WE → Fx (fun g => g = w.heap.size) wr WE → bodyPost Tryz.prog _ (RetRr w front) Exit.ret _ WE) → _ from fun H => H _ hE7 hbE hfE) ?_
      clear hE7 hbE hfE
      intro WE hE7 hbE hfE
      have ze0 := hE7.cell 0
      have ze1 := hE7.cell 1
      have ze2 := hE7.cell 2
      have ze3 := hE7.cell 3
      have ze4 := hE7.cell 4
      have ze5 := hE7.cell 5
      have ze6 := hE7.cell 6
      refine bodyPost_ret (v := .agg #[.int .u8 4, .int .i64 0, .int .i64 0, .int .i64 0, .int .u8 0, .slice none 0 0, .slice none 0 0]) (by simp [results, Tryz.results54, go_sem, ze0, ze1, ze2, ze3, ze4, ze5, ze6]) rfl ?_
      exact rr_end (r := ⟨4, 0, 0, 0, 0, [], []⟩) ⟨recOk_mk (by decide) ⟨by decide, by decide⟩ ⟨by decide, by decide⟩ ⟨by decide, by decide⟩ (by decide), _, _, rfl, SlST.nil _, SlLT.nil _⟩ (fun r0 h e => HF.out.symm.trans (HRR.out r0 h e)) hbE

    by_cases h5 : wd = wordK 5
    · have HF : Hid (recR wd nums = ⟨5, 0, 0, 0, 0, [], []⟩) := by
        show _ = _
        unfold recR
        rw [if_neg h1, if_neg h2, if_neg h3, if_neg h4, if_pos h5]
      have qs1 : ((bs wd).toList == [112, 108, 97, 110]) = false := by rw [bs_list]; exact beq_eq_false_iff_ne.2 h1
      have qs2 : ((bs wd).toList == [105, 110, 116, 101, 110, 116]) = false := by rw [bs_list]; exact beq_eq_false_iff_ne.2 h2
      have qs3 : ((bs wd).toList == [97, 110, 115, 119, 101, 114]) = false := by rw [bs_list]; exact beq_eq_false_iff_ne.2 h3
      have qs4 : ((bs wd).toList == [115, 116, 111, 112]) = false := by rw [bs_list]; exact beq_eq_false_iff_ne.2 h4
      have qs5 : ((bs wd).toList == [101, 110, 100]) = true := by rw [bs_list]; exact beq_iff_eq.2 h5
      clear h1 h2 h3 h4 h5
      have x0 : wr.cell? ⟨w.heap.size, 0, none⟩ = some (.int .u8 0) := BXR.out.cell 0
      have x1 : wr.cell? ⟨w.heap.size, 1, none⟩ = some (.int .i64 0) := BXR.out.cell 1
      have x2 : wr.cell? ⟨w.heap.size, 2, none⟩ = some (.int .i64 0) := BXR.out.cell 2
      have x3 : wr.cell? ⟨w.heap.size, 3, none⟩ = some (.int .i64 0) := BXR.out.cell 3
      have x4 : wr.cell? ⟨w.heap.size, 4, none⟩ = some (.int .u8 0) := BXR.out.cell 4
      have x5 : wr.cell? ⟨w.heap.size, 5, none⟩ = some (.slice none 0 0) := BXR.out.cell 5
      have x6 : wr.cell? ⟨w.heap.size, 6, none⟩ = some (.slice none 0 0) := BXR.out.cell 6
      have f0 := BXR.out.frozen 0
      have f1 := BXR.out.frozen 1
      have f2 := BXR.out.frozen 2
      have f3 := BXR.out.frozen 3
      have f4 := BXR.out.frozen 4
      have f5 := BXR.out.frozen 5
      have f6 := BXR.out.frozen 6
      have xl := BXR.out.lt
      go_wp2_with fail
      have hE7 := end7 (a := .int .u8 5) (b := .int .i64 0) (c := .int .i64 0) (d := .int .i64 0) (e := .int .u8 0) (f := .slice none 0 0) (g := .slice none 0 0) BXR.out
      have hbE := below7 (a := .int .u8 5) (b := .int .i64 0) (c := .int .i64 0) (d := .int .i64 0) (e := .int .u8 0) (f := .slice none 0 0) (g := .slice none 0 0) HBL.out (Nat.le_refl w.heap.size)
      have hfE := fx7 wr w.heap.size (.int .u8 5) (.int .i64 0) (.int .i64 0) (.int .i64 0) (.int .u8 0) (.slice none 0 0) (.slice none 0 0)
      refine (show (∀ WE, Box WE w.heap.size #[.int .u8 5, .int .i64 0, .int .i64 0, .int .i64 0, .int .u8 0, .slice none 0 0, .slice none 0 0] 29 → Below w.heap.size w WE → Fx (fun g => g = w.heap.size) wr WE → bodyPost Tryz.prog _ (RetRr w front) Exit.ret _ WE) → _ from fun H => H _ hE7 hbE hfE) ?_
      clear hE7 hbE hfE
      intro WE hE7 hbE hfE
      have ze0 := hE7.cell 0
      have ze1 := hE7.cell 1
      have ze2 := hE7.cell 2
      have ze3 := hE7.cell 3
      have ze4 := hE7.cell 4
      have ze5 := hE7.cell 5
      have ze6 := hE7.cell 6
      refine bodyPost_ret (v := .agg #[.int .u8 5, .int .i64 0, .int .i64 0, .int .i64 0, .int .u8 0, .slice none 0 0, .slice none 0 0]) (by simp [results, Tryz.results54, go_sem, ze0, ze1, ze2, ze3, ze4, ze5, ze6]) rfl ?_
      exact rr_end (r := ⟨5, 0, 0, 0, 0, [], []⟩) ⟨recOk_mk (by decide) ⟨by decide, by decide⟩ ⟨by decide, by decide⟩ ⟨by decide, by decide⟩ (by decide), _, _, rfl, SlST.nil _, SlLT.nil _⟩ (fun r0 h e => HF.out.symm.trans (HRR.out r0 h e)) hbE

    have HF : Hid (recR wd nums = Rec.none) := by
      show _ = _
      unfold recR
      rw [if_neg h1, if_neg h2, if_neg h3, if_neg h4, if_neg h5]
    have qs1 : ((bs wd).toList == [112, 108, 97, 110]) = false := by rw [bs_list]; exact beq_eq_false_iff_ne.2 h1
    have qs2 : ((bs wd).toList == [105, 110, 116, 101, 110, 116]) = false := by rw [bs_list]; exact beq_eq_false_iff_ne.2 h2
    have qs3 : ((bs wd).toList == [97, 110, 115, 119, 101, 114]) = false := by rw [bs_list]; exact beq_eq_false_iff_ne.2 h3
    have qs4 : ((bs wd).toList == [115, 116, 111, 112]) = false := by rw [bs_list]; exact beq_eq_false_iff_ne.2 h4
    have qs5 : ((bs wd).toList == [101, 110, 100]) = false := by rw [bs_list]; exact beq_eq_false_iff_ne.2 h5
    clear h1 h2 h3 h4 h5
    have x0 : wr.cell? ⟨w.heap.size, 0, none⟩ = some (.int .u8 0) := BXR.out.cell 0
    have x1 : wr.cell? ⟨w.heap.size, 1, none⟩ = some (.int .i64 0) := BXR.out.cell 1
    have x2 : wr.cell? ⟨w.heap.size, 2, none⟩ = some (.int .i64 0) := BXR.out.cell 2
    have x3 : wr.cell? ⟨w.heap.size, 3, none⟩ = some (.int .i64 0) := BXR.out.cell 3
    have x4 : wr.cell? ⟨w.heap.size, 4, none⟩ = some (.int .u8 0) := BXR.out.cell 4
    have x5 : wr.cell? ⟨w.heap.size, 5, none⟩ = some (.slice none 0 0) := BXR.out.cell 5
    have x6 : wr.cell? ⟨w.heap.size, 6, none⟩ = some (.slice none 0 0) := BXR.out.cell 6
    have f0 := BXR.out.frozen 0
    have f1 := BXR.out.frozen 1
    have f2 := BXR.out.frozen 2
    have f3 := BXR.out.frozen 3
    have f4 := BXR.out.frozen 4
    have f5 := BXR.out.frozen 5
    have f6 := BXR.out.frozen 6
    have xl := BXR.out.lt
    go_wp2_with fail
    have hE7 := end7 (a := .int .u8 0) (b := .int .i64 0) (c := .int .i64 0) (d := .int .i64 0) (e := .int .u8 0) (f := .slice none 0 0) (g := .slice none 0 0) BXR.out
    have hbE := below7 (a := .int .u8 0) (b := .int .i64 0) (c := .int .i64 0) (d := .int .i64 0) (e := .int .u8 0) (f := .slice none 0 0) (g := .slice none 0 0) HBL.out (Nat.le_refl w.heap.size)
    have hfE := fx7 wr w.heap.size (.int .u8 0) (.int .i64 0) (.int .i64 0) (.int .i64 0) (.int .u8 0) (.slice none 0 0) (.slice none 0 0)
    refine (show (∀ WE, Box WE w.heap.size #[.int .u8 0, .int .i64 0, .int .i64 0, .int .i64 0, .int .u8 0, .slice none 0 0, .slice none 0 0] 29 → Below w.heap.size w WE → Fx (fun g => g = w.heap.size) wr WE → bodyPost Tryz.prog _ (RetRr w front) Exit.ret _ WE) → _ from fun H => H _ hE7 hbE hfE) ?_
    clear hE7 hbE hfE
    intro WE hE7 hbE hfE
    have ze0 := hE7.cell 0
    have ze1 := hE7.cell 1
    have ze2 := hE7.cell 2
    have ze3 := hE7.cell 3
    have ze4 := hE7.cell 4
    have ze5 := hE7.cell 5
    have ze6 := hE7.cell 6
    refine bodyPost_ret (v := .agg #[.int .u8 0, .int .i64 0, .int .i64 0, .int .i64 0, .int .u8 0, .slice none 0 0, .slice none 0 0]) (by simp [results, Tryz.results54, go_sem, ze0, ze1, ze2, ze3, ze4, ze5, ze6]) rfl ?_
    exact rr_end (none_is WE) (fun r0 h e => HF.out.symm.trans (HRR.out r0 h e)) hbE

end Go.Proofs.YtpaoeeamlinaaaaGreatDoor
