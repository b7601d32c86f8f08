/- Journal, walks of the reference: read, from what record answers. -/
import Derived.Test.YtpaoeeamlinaaaaGreatDoorQJU3
set_option linter.unusedVariables false
namespace Go.Proofs.YtpaoeeamlinaaaaGreatDoor
open Go.RowKit

/-- What the reference's record answers: some record, and the one whose front it is. -/
def RetRr (w : World) (front : List UInt8) (e : Ending) (w' : World) : Prop := ∃ v r, e = .returned v ∧ IsRT w' v r ∧ (∀ r0, CanW r0 → front = frontT r0 → r = r0) ∧ Below w.heap.size w w'
set_option maxRecDepth 100000 in
set_option maxHeartbeats 2000000 in
theorem rread_of (hrec : ∀ (wx : World) (f : List UInt8), f.length ≤ 100000 → Calls Tryz.prog 54 #[.string (bs f)] wx (RetRr wx f)) (w : World) (line : List UInt8) (hl : line.length ≤ 100000) :
    Calls Tryz.prog 37 #[.string (bs line)] w (RetRc w line) := by
  have HREC := Lib.hid hrec
  obtain ⟨W0, hW⟩ : ∃ W0, W0 = w.alloc (.cells #[.int .u8 0, .int .i64 0, .int .i64 0, .int .i64 0, .int .u8 0, .slice none 0 0, .slice none 0 0] 29) := ⟨_, rfl⟩
  have hb0 : Below w.heap.size w W0 := by rw [hW]; exact held_alloc (Below.refl _ _)
  have bx : Box W0 w.heap.size #[.int .u8 0, .int .i64 0, .int .i64 0, .int .i64 0, .int .u8 0, .slice none 0 0, .slice none 0 0] 29 := by rw [hW]; exact Box.new _ _ _
  have HB0 := Lib.hid hb0
  have BX := Lib.hid bx
  have hsz := bs_size line
  clear hrec hb0 bx
  go_enter Tryz.func37, Tryz.ntmps37
  go_upto_region 1 with fail
  rw [← hW]
  clear hW
  go_wp2_with fail
  go_loopg [4] line.length (fun g t wx => ∃ i : Nat, i ≤ line.length ∧ g = line.length - i ∧ t = .int .i64 (i : Int) ∧ Hid (∀ c ∈ line.take i, c ≠ 35) ∧ wx = W0)
  case atStart => exact ⟨0, Nat.zero_le _, rfl, rfl, (fun c hc => by simp at hc), rfl⟩
  case round =>
    obtain ⟨i, hi, rfl, rfl, hno, hwx⟩ := hrel
    subst hwx
    by_cases hlt : i < line.length
    rotate_left
    · obtain rfl : i = line.length := by omega
      have HF : Hid (recP line = (Rec.none, 4)) := by
        show _ = _
        have h := hno.out
        rw [List.take_length] at h
        unfold recP
        rw [cutC_none h]
      have il : ¬ (line.length : Int) < (line.length : Int) := by omega
      clear hno hlt
      have x0 : wr.cell? ⟨w.heap.size, 0, none⟩ = some (.int .u8 0) := BX.out.cell 0
      have x1 : wr.cell? ⟨w.heap.size, 1, none⟩ = some (.int .i64 0) := BX.out.cell 1
      have x2 : wr.cell? ⟨w.heap.size, 2, none⟩ = some (.int .i64 0) := BX.out.cell 2
      have x3 : wr.cell? ⟨w.heap.size, 3, none⟩ = some (.int .i64 0) := BX.out.cell 3
      have x4 : wr.cell? ⟨w.heap.size, 4, none⟩ = some (.int .u8 0) := BX.out.cell 4
      have x5 : wr.cell? ⟨w.heap.size, 5, none⟩ = some (.slice none 0 0) := BX.out.cell 5
      have x6 : wr.cell? ⟨w.heap.size, 6, none⟩ = some (.slice none 0 0) := BX.out.cell 6
      have f0 := BX.out.frozen 0
      have f1 := BX.out.frozen 1
      have f2 := BX.out.frozen 2
      have f3 := BX.out.frozen 3
      have f4 := BX.out.frozen 4
      have f5 := BX.out.frozen 5
      have f6 := BX.out.frozen 6
      have xl := BX.out.lt
      go_wp2_with fail
      have hE7 := end7 (a := .int .u8 0) (b := .int .i64 0) (c := .int .i64 0) (d := .int .i64 0) (e := .int .u8 0) (f := .slice none 0 0) (g := .slice none 0 0) BX.out
      have hbE := below7 (a := .int .u8 0) (b := .int .i64 0) (c := .int .i64 0) (d := .int .i64 0) (e := .int .u8 0) (f := .slice none 0 0) (g := .slice none 0 0) HB0.out (Nat.le_refl w.heap.size)
      refine (show (∀ WE, Box WE w.heap.size #[.int .u8 0, .int .i64 0, .int .i64 0, .int .i64 0, .int .u8 0, .slice none 0 0, .slice none 0 0] 29 → Below w.heap.size w WE → bodyPost Tryz.prog _ (RetRc w line) Exit.ret _ WE) → _ from fun H => H _ hE7 hbE) ?_
      clear hE7 hbE
      intro WE hE7 hbE
      have ze0 := hE7.cell 0
      have ze1 := hE7.cell 1
      have ze2 := hE7.cell 2
      have ze3 := hE7.cell 3
      have ze4 := hE7.cell 4
      have ze5 := hE7.cell 5
      have ze6 := hE7.cell 6
      refine bodyPost_ret (v := .tuple #[.agg #[.int .u8 0, .int .i64 0, .int .i64 0, .int .i64 0, .int .u8 0, .slice none 0 0, .slice none 0 0], .int .i64 4]) (by simp [results, Tryz.results37, go_sem, ze0, ze1, ze2, ze3, ze4, ze5, ze6]) rfl ?_
      exact rec_end HF.out hbE
    have il : (i : Int) < (line.length : Int) := by omega
    have i0 : (0 : Int) ≤ (i : Int) := by omega
    obtain ⟨cc, hcc⟩ : ∃ cc, (line[i]).toNat = cc := ⟨_, rfl⟩
    have hli : i < (bs line).size := by rw [hsz]; exact hlt
    have hget : ((bs line)[i]).toNat = cc := hcc
    have HLT := Lib.hid hlt
    by_cases hc : cc = 35
    rotate_left
    · have q1 : ((cc : Int) == 35) = false := by rw [beq_eq_false_iff_ne]; omega
      have q2 : ((cc : Int) != 35) = true := by rw [bne, q1]; rfl
      have HNX : Hid (∀ c ∈ line.take (i + 1), c ≠ 35) := fun c hc' => by
        rw [List.take_succ_eq_append_getElem hlt] at hc'
        rcases List.mem_append.1 hc' with h | h
        · exact hno.out c h
        · rw [List.mem_singleton.1 h]; exact fun e => hc (hcc.symm.trans (congrArg UInt8.toNat e))
      clear hc hcc
      go_wp2_with fail
      go_roundg (line.length - (i + 1))
      case measure => have := HLT.out; omega
      case rel => exact ⟨i + 1, by have := HLT.out; omega, rfl, by go_num, HNX.out, rfl⟩
    have q1 : ((cc : Int) == 35) = true := by rw [beq_iff_eq]; omega
    have q2 : ((cc : Int) != 35) = false := by rw [bne, q1]; rfl
    have q3 : ((i : Int) == (line.length : Int)) = false := by rw [beq_eq_false_iff_ne]; omega
    have h35 : line[i] = 35 := UInt8.toNat_inj.1 (hcc.trans hc)
    obtain ⟨a, ha⟩ : ∃ a, line.take i = a := ⟨_, rfl⟩
    obtain ⟨b, hb⟩ : ∃ b, line.drop (i + 1) = b := ⟨_, rfl⟩
    have hsp : line = a ++ 35 :: b := by
      have hd1 : line.drop i = 35 :: line.drop (i + 1) := (List.drop_eq_getElem_cons hlt).trans (congrArg (· :: line.drop (i + 1)) h35)
      rw [← ha, ← hb, ← hd1, List.take_append_drop]
    have hcut : cutC 35 line = some (a, b) := by
      rw [hsp]
      exact cutC_app (by rw [← ha]; exact hno.out)
    have hbl : b.length = line.length - (i + 1) := by rw [← hb, List.length_drop]
    have hal : a.length = i := by rw [← ha, List.length_take]; omega
    have hx1 : (bs line).extract 0 i = bs a := by rw [extract_front, ha]
    obtain ⟨i1, hi1⟩ : ∃ i1, i + 1 = i1 := ⟨_, rfl⟩
    have hi2 : (i : Int) + 1 = (i1 : Int) := by omega
    have hi3 : i1 ≤ line.length := by omega
    have hx2 : (bs line).extract i1 line.length = bs b := by rw [extract_bs, List.take_length, ← hi1, hb]
    have hsub : (line.length : Int) - (i : Int) - 1 = (b.length : Int) := by omega
    have HF0 : Hid (recP line = recF line) := recP_eq line
    have HSP := Lib.hid hsp
    have HCUT := Lib.hid hcut
    clear hc hcc h35 ha hb hsp hcut hno hal hi1
    by_cases h4 : 4 < b.length
    · have HF : Hid (recP line = (Rec.none, 4)) := by
        show _ = _
        unfold recP
        rw [HCUT.out]
        simp only
        rw [if_pos h4]
      have y1 : (4 : Int) < (b.length : Int) := by omega
      clear h4 hbl
      have x0 : wr.cell? ⟨w.heap.size, 0, none⟩ = some (.int .u8 0) := BX.out.cell 0
      have x1 : wr.cell? ⟨w.heap.size, 1, none⟩ = some (.int .i64 0) := BX.out.cell 1
      have x2 : wr.cell? ⟨w.heap.size, 2, none⟩ = some (.int .i64 0) := BX.out.cell 2
      have x3 : wr.cell? ⟨w.heap.size, 3, none⟩ = some (.int .i64 0) := BX.out.cell 3
      have x4 : wr.cell? ⟨w.heap.size, 4, none⟩ = some (.int .u8 0) := BX.out.cell 4
      have x5 : wr.cell? ⟨w.heap.size, 5, none⟩ = some (.slice none 0 0) := BX.out.cell 5
      have x6 : wr.cell? ⟨w.heap.size, 6, none⟩ = some (.slice none 0 0) := BX.out.cell 6
      have f0 := BX.out.frozen 0
      have f1 := BX.out.frozen 1
      have f2 := BX.out.frozen 2
      have f3 := BX.out.frozen 3
      have f4 := BX.out.frozen 4
      have f5 := BX.out.frozen 5
      have f6 := BX.out.frozen 6
      have xl := BX.out.lt
      go_wp2_with fail
      have hE7 := end7 (a := .int .u8 0) (b := .int .i64 0) (c := .int .i64 0) (d := .int .i64 0) (e := .int .u8 0) (f := .slice none 0 0) (g := .slice none 0 0) BX.out
      have hbE := below7 (a := .int .u8 0) (b := .int .i64 0) (c := .int .i64 0) (d := .int .i64 0) (e := .int .u8 0) (f := .slice none 0 0) (g := .slice none 0 0) HB0.out (Nat.le_refl w.heap.size)
      refine (show (∀ WE, Box WE w.heap.size #[.int .u8 0, .int .i64 0, .int .i64 0, .int .i64 0, .int .u8 0, .slice none 0 0, .slice none 0 0] 29 → Below w.heap.size w WE → bodyPost Tryz.prog _ (RetRc w line) Exit.ret _ WE) → _ from fun H => H _ hE7 hbE) ?_
      clear hE7 hbE
      intro WE hE7 hbE
      have ze0 := hE7.cell 0
      have ze1 := hE7.cell 1
      have ze2 := hE7.cell 2
      have ze3 := hE7.cell 3
      have ze4 := hE7.cell 4
      have ze5 := hE7.cell 5
      have ze6 := hE7.cell 6
      refine bodyPost_ret (v := .tuple #[.agg #[.int .u8 0, .int .i64 0, .int .i64 0, .int .i64 0, .int .u8 0, .slice none 0 0, .slice none 0 0], .int .i64 4]) (by simp [results, Tryz.results37, go_sem, ze0, ze1, ze2, ze3, ze4, ze5, ze6]) rfl ?_
      exact rec_end HF.out hbE
    have y1 : ¬ (4 : Int) < (b.length : Int) := by omega
    have H4 := Lib.hid h4
    have HAL : Hid (a.length ≤ 100000) := by show _ ≤ _; have h := congrArg List.length HSP.out; rw [List.length_append] at h; omega
    clear h4
    go_wp2_with fail
    refine (rNumber_c wr b (by omega)).mono ?_
    rintro e w1 ⟨rfl, hb1⟩
    have HB1 : Hid (Below w.heap.size w w1) := HB0.out.trans (hb1.mono HB0.out.size)
    have BX1 := Lib.hid (BX.out.after hb1)
    clear hb1
    rcases hn : numF b with _ | k
    · have HF : Hid (recP line = (Rec.none, 4)) := by
        show _ = _
        unfold recP
        rw [HCUT.out]
        simp only
        rw [if_neg H4.out, hn]
      rw [show rnum b = -1 from by unfold rnum; rw [hn]]
      clear hn
      have x0 : w1.cell? ⟨w.heap.size, 0, none⟩ = some (.int .u8 0) := BX1.out.cell 0
      have x1 : w1.cell? ⟨w.heap.size, 1, none⟩ = some (.int .i64 0) := BX1.out.cell 1
      have x2 : w1.cell? ⟨w.heap.size, 2, none⟩ = some (.int .i64 0) := BX1.out.cell 2
      have x3 : w1.cell? ⟨w.heap.size, 3, none⟩ = some (.int .i64 0) := BX1.out.cell 3
      have x4 : w1.cell? ⟨w.heap.size, 4, none⟩ = some (.int .u8 0) := BX1.out.cell 4
      have x5 : w1.cell? ⟨w.heap.size, 5, none⟩ = some (.slice none 0 0) := BX1.out.cell 5
      have x6 : w1.cell? ⟨w.heap.size, 6, none⟩ = some (.slice none 0 0) := BX1.out.cell 6
      have f0 := BX1.out.frozen 0
      have f1 := BX1.out.frozen 1
      have f2 := BX1.out.frozen 2
      have f3 := BX1.out.frozen 3
      have f4 := BX1.out.frozen 4
      have f5 := BX1.out.frozen 5
      have f6 := BX1.out.frozen 6
      have xl := BX1.out.lt
      go_wp2_with fail
      have hE7 := end7 (a := .int .u8 0) (b := .int .i64 0) (c := .int .i64 0) (d := .int .i64 0) (e := .int .u8 0) (f := .slice none 0 0) (g := .slice none 0 0) BX1.out
      have hbE := below7 (a := .int .u8 0) (b := .int .i64 0) (c := .int .i64 0) (d := .int .i64 0) (e := .int .u8 0) (f := .slice none 0 0) (g := .slice none 0 0) HB1.out (Nat.le_refl w.heap.size)
      refine (show (∀ WE, Box WE w.heap.size #[.int .u8 0, .int .i64 0, .int .i64 0, .int .i64 0, .int .u8 0, .slice none 0 0, .slice none 0 0] 29 → Below w.heap.size w WE → bodyPost Tryz.prog _ (RetRc w line) Exit.ret _ WE) → _ from fun H => H _ hE7 hbE) ?_
      clear hE7 hbE
      intro WE hE7 hbE
      have ze0 := hE7.cell 0
      have ze1 := hE7.cell 1
      have ze2 := hE7.cell 2
      have ze3 := hE7.cell 3
      have ze4 := hE7.cell 4
      have ze5 := hE7.cell 5
      have ze6 := hE7.cell 6
      refine bodyPost_ret (v := .tuple #[.agg #[.int .u8 0, .int .i64 0, .int .i64 0, .int .i64 0, .int .u8 0, .slice none 0 0, .slice none 0 0], .int .i64 4]) (by simp [results, Tryz.results37, go_sem, ze0, ze1, ze2, ze3, ze4, ze5, ze6]) rfl ?_
      exact rec_end HF.out hbE
    have HNF := Lib.hid hn
    have hk : rnum b = (k : Int) := by unfold rnum; rw [hn]
    have HK := Lib.hid hk
    rw [hk]
    have hk7 := numF_lt hn
    have y2 : ¬ (k : Int) < 0 := by omega
    obtain ⟨nS, hns⟩ : ∃ nS, sumT a = nS := ⟨_, rfl⟩
    have HNS := Lib.hid hns
    have HSU : Hid (∀ wx, Calls Tryz.prog 14 #[.string (bs a)] wx fun e w' => e = .returned (.int .i64 (nS : Int)) ∧ Below wx.heap.size wx w') := by
      intro wx; rw [← hns]; exact rSum_c wx a (by have := HAL.out; omega)
    obtain ⟨zq, hzq⟩ : ∃ zq, ((k : Int) != (nS : Int)) = zq := ⟨_, rfl⟩
    have HZQ := Lib.hid hzq
    clear hn hk hns
    go_upto_region 6 with fail
    refine wp_region_gj (J := GJ _ (fun _ => SJ 0 (fun κ => match κ with | 0 => .eq (.string (bs line)) | 1 => .eq (.int .i64 (i : Int)) | 2 => .eq (.int .i64 (i1 : Int)) | 3 => .eq (.string (bs b)) | 4 => .eq (.int .i64 (k : Int)) | 5 => .eq (.string (bs line)) | 6 => .eq (.int .i64 (i : Int)) | 7 => .eq (.string (bs a)) | 8 => .eq (.int .i64 (nS : Int)) | 9 => .eq (.bool zq) | _ => .any)) (fun _ _ w => Below w1.heap.size w1 w) _) (by kernel_rfl) ?_ ?_ (GJ.start (below_dr (Below.refl _ _)))
    · intro listed a_ w9 i_ hr hj
      obtain ⟨hi12, hun, _, _, _⟩ := ready_mem hr
      have h12 : i_ ∈ List.range 10 := List.mem_range.2 hi12
      simp only [List.range, List.range.loop, List.mem_cons, List.not_mem_nil, or_false] at h12
      obtain ⟨f, rfl, hcm, hf⟩ := hj.opened [41, 42, 43, 44, 45, 46, 47, 48, 49, 50] (by kernel_rfl)
      replace hcm : Below w1.heap.size w1 w9 := hcm
      rcases h12 with rfl | rfl | rfl | rfl | rfl | rfl | rfl | rfl | rfl | rfl
      · refine GJ.op hj (by kernel_rfl) hr rfl [41, 42, 43, 44, 45, 46, 47, 48, 49, 50] (by kernel_rfl) (fun K hK => ?_)
        simp only [Act.put, List.foldl_cons, List.foldl_nil, List.setIfInBounds_toArray, List.set_cons_zero, List.set_cons_succ] at hK ⊢
        clear hj hf
        go_simp
        exact hK _ _ (fun k v _ _ h => h.keep (Below.refl _ _)) (fun t ht => SJ.of (.eq (.string (bs line))) rfl rfl) (hcm.trans ((Below.refl _ _).mono hcm.size))
      · refine GJ.op hj (by kernel_rfl) hr rfl [41, 42, 43, 44, 45, 46, 47, 48, 49, 50] (by kernel_rfl) (fun K hK => ?_)
        simp only [Act.put, List.foldl_cons, List.foldl_nil, List.setIfInBounds_toArray, List.set_cons_zero, List.set_cons_succ] at hK ⊢
        clear hj hf
        go_simp
        exact hK _ _ (fun k v _ _ h => h.keep (Below.refl _ _)) (fun t ht => SJ.of (.eq (.int .i64 (i : Int))) rfl rfl) (hcm.trans ((Below.refl _ _).mono hcm.size))
      · have e1 : f 42 = .int .i64 (i : Int) := hf 1 _ _ rfl rfl (up_dep hr (by kernel_rfl))
        refine GJ.op hj (by kernel_rfl) hr rfl [41, 42, 43, 44, 45, 46, 47, 48, 49, 50] (by kernel_rfl) (fun K hK => ?_)
        simp only [Act.put, List.foldl_cons, List.foldl_nil, List.setIfInBounds_toArray, List.set_cons_zero, List.set_cons_succ] at hK ⊢
        clear hj hf
        rw [e1] at hK ⊢
        clear e1
        go_simp
        rw [wrap_in (z := (i1 : Int)) (by omega) (by omega)]
        exact hK _ _ (fun k v _ _ h => h.keep (Below.refl _ _)) (fun t ht => SJ.of (.eq (.int .i64 (i1 : Int))) rfl rfl) (hcm.trans ((Below.refl _ _).mono hcm.size))
      · have e1 : f 41 = .string (bs line) := hf 0 _ _ rfl rfl (up_dep hr (by kernel_rfl))
        have e2 : f 43 = .int .i64 (i1 : Int) := hf 2 _ _ rfl rfl (up_dep hr (by kernel_rfl))
        refine GJ.op hj (by kernel_rfl) hr rfl [41, 42, 43, 44, 45, 46, 47, 48, 49, 50] (by kernel_rfl) (fun K hK => ?_)
        simp only [Act.put, List.foldl_cons, List.foldl_nil, List.setIfInBounds_toArray, List.set_cons_zero, List.set_cons_succ] at hK ⊢
        clear hj hf
        rw [e1, e2] at hK ⊢
        clear e1 e2
        go_simp
        exact hK _ _ (fun k v _ _ h => h.keep (Below.refl _ _)) (fun t ht => SJ.of (.eq (.string (bs b))) rfl rfl) (hcm.trans ((Below.refl _ _).mono hcm.size))
      · have e1 : f 44 = .string (bs b) := hf 3 _ _ rfl rfl (up_dep hr (by kernel_rfl))
        refine GJ.op hj (by kernel_rfl) hr rfl [41, 42, 43, 44, 45, 46, 47, 48, 49, 50] (by kernel_rfl) (fun K hK => ?_)
        simp only [Act.put, List.foldl_cons, List.foldl_nil, List.setIfInBounds_toArray, List.set_cons_zero, List.set_cons_succ] at hK ⊢
        clear hj hf
        rw [e1] at hK ⊢
        clear e1
        go_simp
        refine (rNumber_c w9 b (by omega)).mono ?_
        rw [HK.out]
        rintro e w11 ⟨rfl, hb11⟩
        exact hK _ _ (fun k v _ _ h => h.keep hb11) (fun t ht => SJ.of (.eq (.int .i64 (k : Int))) rfl rfl) (hcm.trans (hb11.mono hcm.size))
      · refine GJ.op hj (by kernel_rfl) hr rfl [41, 42, 43, 44, 45, 46, 47, 48, 49, 50] (by kernel_rfl) (fun K hK => ?_)
        simp only [Act.put, List.foldl_cons, List.foldl_nil, List.setIfInBounds_toArray, List.set_cons_zero, List.set_cons_succ] at hK ⊢
        clear hj hf
        go_simp
        exact hK _ _ (fun k v _ _ h => h.keep (Below.refl _ _)) (fun t ht => SJ.of (.eq (.string (bs line))) rfl rfl) (hcm.trans ((Below.refl _ _).mono hcm.size))
      · refine GJ.op hj (by kernel_rfl) hr rfl [41, 42, 43, 44, 45, 46, 47, 48, 49, 50] (by kernel_rfl) (fun K hK => ?_)
        simp only [Act.put, List.foldl_cons, List.foldl_nil, List.setIfInBounds_toArray, List.set_cons_zero, List.set_cons_succ] at hK ⊢
        clear hj hf
        go_simp
        exact hK _ _ (fun k v _ _ h => h.keep (Below.refl _ _)) (fun t ht => SJ.of (.eq (.int .i64 (i : Int))) rfl rfl) (hcm.trans ((Below.refl _ _).mono hcm.size))
      · have e1 : f 46 = .string (bs line) := hf 5 _ _ rfl rfl (up_dep hr (by kernel_rfl))
        have e2 : f 47 = .int .i64 (i : Int) := hf 6 _ _ rfl rfl (up_dep hr (by kernel_rfl))
        refine GJ.op hj (by kernel_rfl) hr rfl [41, 42, 43, 44, 45, 46, 47, 48, 49, 50] (by kernel_rfl) (fun K hK => ?_)
        simp only [Act.put, List.foldl_cons, List.foldl_nil, List.setIfInBounds_toArray, List.set_cons_zero, List.set_cons_succ] at hK ⊢
        clear hj hf
        rw [e1, e2] at hK ⊢
        clear e1 e2
        go_simp
        exact hK _ _ (fun k v _ _ h => h.keep (Below.refl _ _)) (fun t ht => SJ.of (.eq (.string (bs a))) rfl rfl) (hcm.trans ((Below.refl _ _).mono hcm.size))
      · have e1 : f 48 = .string (bs a) := hf 7 _ _ rfl rfl (up_dep hr (by kernel_rfl))
        refine GJ.op hj (by kernel_rfl) hr rfl [41, 42, 43, 44, 45, 46, 47, 48, 49, 50] (by kernel_rfl) (fun K hK => ?_)
        simp only [Act.put, List.foldl_cons, List.foldl_nil, List.setIfInBounds_toArray, List.set_cons_zero, List.set_cons_succ] at hK ⊢
        clear hj hf
        rw [e1] at hK ⊢
        clear e1
        go_simp
        refine (HSU.out w9).mono ?_
        skip
        rintro e w11 ⟨rfl, hb11⟩
        exact hK _ _ (fun k v _ _ h => h.keep hb11) (fun t ht => SJ.of (.eq (.int .i64 (nS : Int))) rfl rfl) (hcm.trans (hb11.mono hcm.size))
      · have e1 : f 45 = .int .i64 (k : Int) := hf 4 _ _ rfl rfl (up_dep hr (by kernel_rfl))
        have e2 : f 49 = .int .i64 (nS : Int) := hf 8 _ _ rfl rfl (up_dep hr (by kernel_rfl))
        refine GJ.op hj (by kernel_rfl) hr rfl [41, 42, 43, 44, 45, 46, 47, 48, 49, 50] (by kernel_rfl) (fun K hK => ?_)
        simp only [Act.put, List.foldl_cons, List.foldl_nil, List.setIfInBounds_toArray, List.set_cons_zero, List.set_cons_succ] at hK ⊢
        clear hj hf
        rw [e1, e2] at hK ⊢
        clear e1 e2
        go_simp
        exact hK _ _ (fun k v _ _ h => h.keep (Below.refl _ _)) (fun t ht => SJ.of (.eq (.bool zq)) rfl rfl) (hcm.trans ((Below.refl _ _).mono hcm.size))
    · intro listed a_ w10 hr hj
      have hu : ∀ k, k < 10 → up listed k := fun k hk => all_up (by kernel_rfl) hj.lsize hr k hk
      obtain ⟨f, rfl, hcm, hf⟩ := hj.opened [41, 42, 43, 44, 45, 46, 47, 48, 49, 50] (by kernel_rfl)
      replace hcm : Below w1.heap.size w1 w10 := hcm
      have HLast : f 50 = .bool zq := hf 9 _ _ rfl rfl (hu 9 (by omega))
      have HBR := Lib.hid hcm
      clear hf hj hr hu hcm
      simp only [List.foldl_cons, List.foldl_nil, List.setIfInBounds_toArray, List.set_cons_zero, List.set_cons_succ]
      rw [HLast]
      clear HLast
      generalize f 41 = g41
      generalize f 42 = g42
      generalize f 43 = g43
      generalize f 44 = g44
      generalize f 45 = g45
      generalize f 46 = g46
      generalize f 47 = g47
      generalize f 48 = g48
      generalize f 49 = g49
      clear f
      have HB2 : Hid (Below w.heap.size w w10) := HB1.out.trans (HBR.out.mono HB1.out.size)
      have BX2 := Lib.hid (BX1.out.after HBR.out)
      clear HBR
      cases zq with
      | true =>
        have HF : Hid (recP line = (Rec.none, 17)) := by
          show _ = _
          unfold recP
          rw [HCUT.out]
          simp only
          rw [if_neg H4.out, HNF.out]
          simp only
          rw [if_pos (fun e => by rw [bne_iff_ne] at HZQ; exact HZQ.out (by rw [← HNS.out, e]))]
        have x0 : w10.cell? ⟨w.heap.size, 0, none⟩ = some (.int .u8 0) := BX2.out.cell 0
        have x1 : w10.cell? ⟨w.heap.size, 1, none⟩ = some (.int .i64 0) := BX2.out.cell 1
        have x2 : w10.cell? ⟨w.heap.size, 2, none⟩ = some (.int .i64 0) := BX2.out.cell 2
        have x3 : w10.cell? ⟨w.heap.size, 3, none⟩ = some (.int .i64 0) := BX2.out.cell 3
        have x4 : w10.cell? ⟨w.heap.size, 4, none⟩ = some (.int .u8 0) := BX2.out.cell 4
        have x5 : w10.cell? ⟨w.heap.size, 5, none⟩ = some (.slice none 0 0) := BX2.out.cell 5
        have x6 : w10.cell? ⟨w.heap.size, 6, none⟩ = some (.slice none 0 0) := BX2.out.cell 6
        have f0 := BX2.out.frozen 0
        have f1 := BX2.out.frozen 1
        have f2 := BX2.out.frozen 2
        have f3 := BX2.out.frozen 3
        have f4 := BX2.out.frozen 4
        have f5 := BX2.out.frozen 5
        have f6 := BX2.out.frozen 6
        have xl := BX2.out.lt
        go_wp2_with fail
        have hE7 := end7 (a := .int .u8 0) (b := .int .i64 0) (c := .int .i64 0) (d := .int .i64 0) (e := .int .u8 0) (f := .slice none 0 0) (g := .slice none 0 0) BX2.out
        have hbE := below7 (a := .int .u8 0) (b := .int .i64 0) (c := .int .i64 0) (d := .int .i64 0) (e := .int .u8 0) (f := .slice none 0 0) (g := .slice none 0 0) HB2.out (Nat.le_refl w.heap.size)
        refine (show (∀ WE, Box WE w.heap.size #[.int .u8 0, .int .i64 0, .int .i64 0, .int .i64 0, .int .u8 0, .slice none 0 0, .slice none 0 0] 29 → Below w.heap.size w WE → bodyPost Tryz.prog _ (RetRc w line) Exit.ret _ WE) → _ from fun H => H _ hE7 hbE) ?_
        clear hE7 hbE
        intro WE hE7 hbE
        have ze0 := hE7.cell 0
        have ze1 := hE7.cell 1
        have ze2 := hE7.cell 2
        have ze3 := hE7.cell 3
        have ze4 := hE7.cell 4
        have ze5 := hE7.cell 5
        have ze6 := hE7.cell 6
        refine bodyPost_ret (v := .tuple #[.agg #[.int .u8 0, .int .i64 0, .int .i64 0, .int .i64 0, .int .u8 0, .slice none 0 0, .slice none 0 0], .int .i64 17]) (by simp [results, Tryz.results37, go_sem, ze0, ze1, ze2, ze3, ze4, ze5, ze6]) rfl ?_
        exact rec_end HF.out hbE
      | false =>
        have HKS : Hid (k = sumT a) := by
          have h := HZQ.out
          rw [bne_eq_false_iff_eq] at h
          rw [← HNS.out] at h
          show _ = _
          omega
        go_wp2_with fail
        refine (HREC.out w10 a (by have := HAL.out; omega)).mono ?_
        rintro e w2 ⟨vr, r, rfl, hvr, hone, hb2⟩
        have HB3 : Hid (Below w.heap.size w w2) := HB2.out.trans (hb2.mono HB2.out.size)
        have BX3 := Lib.hid (BX2.out.after hb2)
        have HNO : Hid (¬ (CanW r ∧ lineT r = line ++ [10]) → recP line = (Rec.none, 4)) := fun h => by
          rw [HF0.out]
          unfold recF
          rw [HCUT.out]
          simp only
          rw [if_neg H4.out, HNF.out]
          simp only
          rw [if_neg (by simpa using HKS.out), dif_neg]
          rintro ⟨r0, c0, e0⟩
          apply h
          have hl : line = frontT r0 ++ 35 :: dd (sumT (frontT r0)) := by
            have : frontT r0 ++ 35 :: dd (sumT (frontT r0)) ++ [10] = line ++ [10] := by rw [← e0]; simp [lineT]
            exact (List.append_cancel_right this).symm
          have hc0 : cutC 35 line = some (frontT r0, dd (sumT (frontT r0))) := by rw [hl]; exact cutC_app (fun _ h => (front_no h).1)
          rw [HCUT.out] at hc0
          injection hc0 with hc0
          injection hc0 with hc0 _
          rw [hone r0 c0 hc0]
          exact ⟨c0, e0⟩
        obtain ⟨hok, vs, va, rfl, hs2, ha2⟩ := hvr
        obtain ⟨pS, cS, rfl, _⟩ := hs2.1.2.shape
        obtain ⟨uL, huL, _⟩ := id ha2.1
        obtain ⟨pL, cL, rfl, _⟩ := huL.shape
        have HV2 : Hid (IsRT w2 (.agg (recV r (.slice pS r.steps.length cS) (.slice pL r.after.length cL))) r) := ⟨hok, _, _, rfl, hs2, ha2⟩
        clear hb2 huL hok hs2 ha2 hone
        unfold recV
        obtain ⟨W3, hW3⟩ : ∃ W3, W3 = w2.alloc (.cells #[.int .u8 (r.kind : Int), .int .i64 r.place, .int .i64 r.id, .int .i64 r.lease, .int .u8 (r.ans : Int), .slice pS r.steps.length cS, .slice pL r.after.length cL] 29) := ⟨_, rfl⟩
        have hb3 : Below w2.heap.size w2 W3 := by rw [hW3]; exact held_alloc (Below.refl _ _)
        have hx3 : Box W3 w2.heap.size #[.int .u8 (r.kind : Int), .int .i64 r.place, .int .i64 r.id, .int .i64 r.lease, .int .u8 (r.ans : Int), .slice pS r.steps.length cS, .slice pL r.after.length cL] 29 := by rw [hW3]; exact Box.new _ _ _
        have HB4 : Hid (Below w.heap.size w W3) := HB3.out.trans (hb3.mono HB3.out.size)
        have BX4 := Lib.hid (BX3.out.after hb3)
        have HV3 := Lib.hid (HV2.out.after hb3)
        have HX3 := Lib.hid hx3
        clear hb3
        go_upto_region 9 with fail
        rw [← hW3]
        clear hW3
        have y0 : W3.cell? ⟨w2.heap.size, 0, none⟩ = some (.int .u8 (r.kind : Int)) := hx3.cell 0
        have y1 : W3.cell? ⟨w2.heap.size, 1, none⟩ = some (.int .i64 r.place) := hx3.cell 1
        have y2 : W3.cell? ⟨w2.heap.size, 2, none⟩ = some (.int .i64 r.id) := hx3.cell 2
        have y3 : W3.cell? ⟨w2.heap.size, 3, none⟩ = some (.int .i64 r.lease) := hx3.cell 3
        have y4 : W3.cell? ⟨w2.heap.size, 4, none⟩ = some (.int .u8 (r.ans : Int)) := hx3.cell 4
        have y5 : W3.cell? ⟨w2.heap.size, 5, none⟩ = some (.slice pS r.steps.length cS) := hx3.cell 5
        have y6 : W3.cell? ⟨w2.heap.size, 6, none⟩ = some (.slice pL r.after.length cL) := hx3.cell 6
        have yl := hx3.lt
        clear hx3
        go_wp2_with fail
        refine (rLine_c W3 _ r HV3.out.is).mono ?_
        unfold RetL
        rintro e w4 ⟨rfl, hb4⟩
        have HB5 : Hid (Below w.heap.size w w4) := HB4.out.trans (hb4.mono HB4.out.size)
        have BX5 := Lib.hid (BX4.out.after hb4)
        have HV5 := Lib.hid (HV3.out.after hb4)
        have HX5 := Lib.hid (HX3.out.after hb4)
        clear hb4 y0 y1 y2 y3 y4 y5 y6 yl
        obtain ⟨sx, er, hlr⟩ : ∃ sx er, lineF r = (sx, er) := ⟨_, _, rfl⟩
        have HLR := Lib.hid hlr
        rw [hlr]
        clear hlr
        dsimp only
        by_cases her : er = 0
        rotate_left
        · have HF : Hid (recP line = (Rec.none, 4)) := HNO.out (fun h => her (by
            have h1 := HLR.out
            unfold lineF at h1
            rw [if_pos h.1] at h1
            injection h1 with _ h1
            exact h1.symm))
          have p1 : (er == 0) = false := by rw [beq_eq_false_iff_ne]; exact her
          have p2 : (er != 0) = true := by rw [bne, p1]; rfl
          clear her
          have x0 : w4.cell? ⟨w.heap.size, 0, none⟩ = some (.int .u8 0) := BX5.out.cell 0
          have x1 : w4.cell? ⟨w.heap.size, 1, none⟩ = some (.int .i64 0) := BX5.out.cell 1
          have x2 : w4.cell? ⟨w.heap.size, 2, none⟩ = some (.int .i64 0) := BX5.out.cell 2
          have x3 : w4.cell? ⟨w.heap.size, 3, none⟩ = some (.int .i64 0) := BX5.out.cell 3
          have x4 : w4.cell? ⟨w.heap.size, 4, none⟩ = some (.int .u8 0) := BX5.out.cell 4
          have x5 : w4.cell? ⟨w.heap.size, 5, none⟩ = some (.slice none 0 0) := BX5.out.cell 5
          have x6 : w4.cell? ⟨w.heap.size, 6, none⟩ = some (.slice none 0 0) := BX5.out.cell 6
          have f0 := BX5.out.frozen 0
          have f1 := BX5.out.frozen 1
          have f2 := BX5.out.frozen 2
          have f3 := BX5.out.frozen 3
          have f4 := BX5.out.frozen 4
          have f5 := BX5.out.frozen 5
          have f6 := BX5.out.frozen 6
          have xl := BX5.out.lt
          go_wp2_with fail
          have hE7 := end7 (a := .int .u8 0) (b := .int .i64 0) (c := .int .i64 0) (d := .int .i64 0) (e := .int .u8 0) (f := .slice none 0 0) (g := .slice none 0 0) BX5.out
          have hbE := below7 (a := .int .u8 0) (b := .int .i64 0) (c := .int .i64 0) (d := .int .i64 0) (e := .int .u8 0) (f := .slice none 0 0) (g := .slice none 0 0) HB5.out (Nat.le_refl w.heap.size)
          refine (show (∀ WE, Box WE w.heap.size #[.int .u8 0, .int .i64 0, .int .i64 0, .int .i64 0, .int .u8 0, .slice none 0 0, .slice none 0 0] 29 → Below w.heap.size w WE → bodyPost Tryz.prog _ (RetRc w line) Exit.ret _ WE) → _ from fun H => H _ hE7 hbE) ?_
          clear hE7 hbE
          intro WE hE7 hbE
          have ze0 := hE7.cell 0
          have ze1 := hE7.cell 1
          have ze2 := hE7.cell 2
          have ze3 := hE7.cell 3
          have ze4 := hE7.cell 4
          have ze5 := hE7.cell 5
          have ze6 := hE7.cell 6
          refine bodyPost_ret (v := .tuple #[.agg #[.int .u8 0, .int .i64 0, .int .i64 0, .int .i64 0, .int .u8 0, .slice none 0 0, .slice none 0 0], .int .i64 4]) (by simp [results, Tryz.results37, go_sem, ze0, ze1, ze2, ze3, ze4, ze5, ze6]) rfl ?_
          exact rec_end HF.out hbE
        subst her
        obtain ⟨L2, hL2⟩ : ∃ L2, line ++ [10] = L2 := ⟨_, rfl⟩
        have hcat : bs line ++ (⟨#[10]⟩ : ByteArray) = bs L2 := by rw [← hL2]; exact append_bs line [10]
        have hsv := bs_eqv sx L2
        have hn1 : ¬ (9223372036854775807 < line.length + 1) := by omega
        obtain ⟨zs, hzs⟩ : ∃ zs, decide (sx = L2) = zs := ⟨_, rfl⟩
        rw [hzs] at hsv
        have HZS := Lib.hid hzs
        have HL2 := Lib.hid hL2
        clear hzs hL2
        cases zs with
        | false =>
          have HF : Hid (recP line = (Rec.none, 4)) := HNO.out (fun h => by
            have h0 := of_decide_eq_false HZS.out
            have h1 := HLR.out
            unfold lineF at h1
            rw [if_pos h.1] at h1
            injection h1 with h1 _
            exact h0 (by rw [← h1, h.2, HL2.out]))
          have x0 : w4.cell? ⟨w.heap.size, 0, none⟩ = some (.int .u8 0) := BX5.out.cell 0
          have x1 : w4.cell? ⟨w.heap.size, 1, none⟩ = some (.int .i64 0) := BX5.out.cell 1
          have x2 : w4.cell? ⟨w.heap.size, 2, none⟩ = some (.int .i64 0) := BX5.out.cell 2
          have x3 : w4.cell? ⟨w.heap.size, 3, none⟩ = some (.int .i64 0) := BX5.out.cell 3
          have x4 : w4.cell? ⟨w.heap.size, 4, none⟩ = some (.int .u8 0) := BX5.out.cell 4
          have x5 : w4.cell? ⟨w.heap.size, 5, none⟩ = some (.slice none 0 0) := BX5.out.cell 5
          have x6 : w4.cell? ⟨w.heap.size, 6, none⟩ = some (.slice none 0 0) := BX5.out.cell 6
          have f0 := BX5.out.frozen 0
          have f1 := BX5.out.frozen 1
          have f2 := BX5.out.frozen 2
          have f3 := BX5.out.frozen 3
          have f4 := BX5.out.frozen 4
          have f5 := BX5.out.frozen 5
          have f6 := BX5.out.frozen 6
          have xl := BX5.out.lt
          go_wp2_with fail
          have hE7 := end7 (a := .int .u8 0) (b := .int .i64 0) (c := .int .i64 0) (d := .int .i64 0) (e := .int .u8 0) (f := .slice none 0 0) (g := .slice none 0 0) BX5.out
          have hbE := below7 (a := .int .u8 0) (b := .int .i64 0) (c := .int .i64 0) (d := .int .i64 0) (e := .int .u8 0) (f := .slice none 0 0) (g := .slice none 0 0) HB5.out (Nat.le_refl w.heap.size)
          refine (show (∀ WE, Box WE w.heap.size #[.int .u8 0, .int .i64 0, .int .i64 0, .int .i64 0, .int .u8 0, .slice none 0 0, .slice none 0 0] 29 → Below w.heap.size w WE → bodyPost Tryz.prog _ (RetRc w line) Exit.ret _ WE) → _ from fun H => H _ hE7 hbE) ?_
          clear hE7 hbE
          intro WE hE7 hbE
          have ze0 := hE7.cell 0
          have ze1 := hE7.cell 1
          have ze2 := hE7.cell 2
          have ze3 := hE7.cell 3
          have ze4 := hE7.cell 4
          have ze5 := hE7.cell 5
          have ze6 := hE7.cell 6
          refine bodyPost_ret (v := .tuple #[.agg #[.int .u8 0, .int .i64 0, .int .i64 0, .int .i64 0, .int .u8 0, .slice none 0 0, .slice none 0 0], .int .i64 4]) (by simp [results, Tryz.results37, go_sem, ze0, ze1, ze2, ze3, ze4, ze5, ze6]) rfl ?_
          exact rec_end HF.out hbE
        | true =>
          have hok := lineF_ok HLR.out
          have HF : Hid (recP line = (r, 0)) := by
            show _ = _
            rw [HF0.out]
            exact rec_line hok.1 (by rw [hok.2, HL2.out]; exact of_decide_eq_true HZS.out)
          clear hok
          have x0 : w4.cell? ⟨w.heap.size, 0, none⟩ = some (.int .u8 0) := BX5.out.cell 0
          have x1 : w4.cell? ⟨w.heap.size, 1, none⟩ = some (.int .i64 0) := BX5.out.cell 1
          have x2 : w4.cell? ⟨w.heap.size, 2, none⟩ = some (.int .i64 0) := BX5.out.cell 2
          have x3 : w4.cell? ⟨w.heap.size, 3, none⟩ = some (.int .i64 0) := BX5.out.cell 3
          have x4 : w4.cell? ⟨w.heap.size, 4, none⟩ = some (.int .u8 0) := BX5.out.cell 4
          have x5 : w4.cell? ⟨w.heap.size, 5, none⟩ = some (.slice none 0 0) := BX5.out.cell 5
          have x6 : w4.cell? ⟨w.heap.size, 6, none⟩ = some (.slice none 0 0) := BX5.out.cell 6
          have f0 := BX5.out.frozen 0
          have f1 := BX5.out.frozen 1
          have f2 := BX5.out.frozen 2
          have f3 := BX5.out.frozen 3
          have f4 := BX5.out.frozen 4
          have f5 := BX5.out.frozen 5
          have f6 := BX5.out.frozen 6
          have xl := BX5.out.lt
          have s0 : w4.cell? ⟨w2.heap.size, 0, none⟩ = some (.int .u8 (r.kind : Int)) := HX5.out.cell 0
          have s1 : w4.cell? ⟨w2.heap.size, 1, none⟩ = some (.int .i64 r.place) := HX5.out.cell 1
          have s2 : w4.cell? ⟨w2.heap.size, 2, none⟩ = some (.int .i64 r.id) := HX5.out.cell 2
          have s3 : w4.cell? ⟨w2.heap.size, 3, none⟩ = some (.int .i64 r.lease) := HX5.out.cell 3
          have s4 : w4.cell? ⟨w2.heap.size, 4, none⟩ = some (.int .u8 (r.ans : Int)) := HX5.out.cell 4
          have s5 : w4.cell? ⟨w2.heap.size, 5, none⟩ = some (.slice pS r.steps.length cS) := HX5.out.cell 5
          have s6 : w4.cell? ⟨w2.heap.size, 6, none⟩ = some (.slice pL r.after.length cL) := HX5.out.cell 6
          have sl := HX5.out.lt
          go_wp2_with fail
          have hE7 := end7 (a := .int .u8 (r.kind : Int)) (b := .int .i64 r.place) (c := .int .i64 r.id) (d := .int .i64 r.lease) (e := .int .u8 (r.ans : Int)) (f := .slice pS r.steps.length cS) (g := .slice pL r.after.length cL) BX5.out
          have hbE := below7 (a := .int .u8 (r.kind : Int)) (b := .int .i64 r.place) (c := .int .i64 r.id) (d := .int .i64 r.lease) (e := .int .u8 (r.ans : Int)) (f := .slice pS r.steps.length cS) (g := .slice pL r.after.length cL) HB5.out (Nat.le_refl w.heap.size)
          have hfE := fx7 w4 w.heap.size (.int .u8 (r.kind : Int)) (.int .i64 r.place) (.int .i64 r.id) (.int .i64 r.lease) (.int .u8 (r.ans : Int)) (.slice pS r.steps.length cS) (.slice pL r.after.length cL)
          refine (show (∀ WE, Box WE w.heap.size #[.int .u8 (r.kind : Int), .int .i64 r.place, .int .i64 r.id, .int .i64 r.lease, .int .u8 (r.ans : Int), .slice pS r.steps.length cS, .slice pL r.after.length cL] 29 → Below w.heap.size w WE → Fx (fun g => g = w.heap.size) w4 WE → bodyPost Tryz.prog _ (RetRc w line) Exit.ret _ WE) → _ from fun H => H _ hE7 hbE hfE) ?_
          clear hE7 hbE hfE
          intro WE hE7 hbE hfE
          have ze0 := hE7.cell 0
          have ze1 := hE7.cell 1
          have ze2 := hE7.cell 2
          have ze3 := hE7.cell 3
          have ze4 := hE7.cell 4
          have ze5 := hE7.cell 5
          have ze6 := hE7.cell 6
          refine bodyPost_ret (v := .tuple #[.agg #[.int .u8 (r.kind : Int), .int .i64 r.place, .int .i64 r.id, .int .i64 r.lease, .int .u8 (r.ans : Int), .slice pS r.steps.length cS, .slice pL r.after.length cL], .int .i64 0]) (by simp [results, Tryz.results37, go_sem, ze0, ze1, ze2, ze3, ze4, ze5, ze6]) rfl ?_
          have hq := HV5.out.fx hfE (NoP.of BX5.out.tag (by decide) (by decide) (by decide))
          exact ⟨_, by rw [HF.out], by rw [HF.out]; exact hq, hbE⟩
end Go.Proofs.YtpaoeeamlinaaaaGreatDoor
