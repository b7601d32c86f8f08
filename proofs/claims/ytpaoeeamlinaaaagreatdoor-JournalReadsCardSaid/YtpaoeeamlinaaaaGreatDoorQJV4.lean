/- Journal, walks of the reference: SamePlan, Same, SameAll. -/
import Derived.Test.YtpaoeeamlinaaaaGreatDoorQJV3
set_option linter.unusedVariables false
namespace Go.Proofs.YtpaoeeamlinaaaaGreatDoor
open Go.RowKit

def SamePl (sa : List Stp) (la : List (List Int)) (sb : List Stp) (lb : List (List Int)) : Prop := sa = sb ∧ la = lb
instance (sa : List Stp) (la : List (List Int)) (sb : List Stp) (lb : List (List Int)) : Decidable (SamePl sa la sb lb) := by unfold SamePl; infer_instance
set_option maxRecDepth 100000 in
set_option maxHeartbeats 2000000 in
theorem rPlan_c (w : World) (vs va us ua : Value) (sa sb : List Stp) (la lb : List (List Int)) (h1 : SlS w vs sa) (h2 : SlL w va la) (k1 : SlS w us sb) (k2 : SlL w ua lb) :
    Calls Tryz.prog 34 #[.agg #[vs, va], .agg #[us, ua]] w (RetB w (decide (SamePl sa la sb lb))) := by
  obtain ⟨p, c, rfl, _, _, _⟩ := h1.2.shape
  obtain ⟨q, d, rfl, _, _, _⟩ := k1.2.shape
  obtain ⟨u1, hu1, hi1⟩ := h2
  obtain ⟨u2, hu2, hi2⟩ := k2
  obtain ⟨p2, c2, rfl, _, _, _⟩ := hu1.shape
  obtain ⟨q2, d2, rfl, _, _, _⟩ := hu2.shape
  obtain ⟨W0, hW, bx, by', hsz, hb0⟩ := start2 w #[.slice p sa.length c, .slice p2 la.length c2] #[.slice q sb.length d, .slice q2 lb.length d2] 27
  have H1 := Lib.hid (h1.after hb0)
  have K1 := Lib.hid (k1.after hb0)
  have HU1 := Lib.hid (hu1.after hb0)
  have HU2 := Lib.hid (hu2.after hb0)
  have HI1 : Hid (∀ i, i < la.length → SlI W0 (u1 i) (la.getD i [])) := fun i hi => (hi1 i hi).after hb0
  have HI2 : Hid (∀ i, i < lb.length → SlI W0 (u2 i) (lb.getD i [])) := fun i hi => (hi2 i hi).after hb0
  have HB := Lib.hid hb0
  have BX := Lib.hid bx
  have BY := Lib.hid by'
  have x0 : W0.cell? ⟨w.heap.size, 0, none⟩ = some (.slice p sa.length c) := bx.cell 0
  have x1 : W0.cell? ⟨w.heap.size, 1, none⟩ = some (.slice p2 la.length c2) := bx.cell 1
  have y0 : W0.cell? ⟨w.heap.size + 1, 0, none⟩ = some (.slice q sb.length d) := by'.cell 0
  have y1 : W0.cell? ⟨w.heap.size + 1, 1, none⟩ = some (.slice q2 lb.length d2) := by'.cell 1
  have lx := bx.lt
  have ly := by'.lt
  clear h1 k1 hu1 hu2 hi1 hi2 hb0 bx by' hsz
  by_cases hl : sa.length = sb.length
  rotate_left
  · have HD : Hid (decide (SamePl sa la sb lb) = false) := decide_eq_false (fun e => hl (by rw [e.1]))
    have z1 : ((sa.length : Int) == (sb.length : Int)) = false := by rw [beq_eq_false_iff_ne]; omega
    have z2 : ((sa.length : Int) != (sb.length : Int)) = true := by rw [bne, z1]; rfl
    clear hl
    go_enter Tryz.func34, Tryz.ntmps34
    go_upto_region 1 with fail
    rw [← hW]
    clear hW
    go_wp2_with fail
    go_ret
    exact ⟨by rw [HD.out]; rfl, HB.out⟩
  have z1 : ((sa.length : Int) == (sb.length : Int)) = true := by rw [beq_iff_eq]; omega
  have z2 : ((sa.length : Int) != (sb.length : Int)) = false := by rw [bne, z1]; rfl
  by_cases hm : la.length = lb.length
  rotate_left
  · have HD : Hid (decide (SamePl sa la sb lb) = false) := decide_eq_false (fun e => hm (by rw [e.2]))
    have z3 : ((la.length : Int) == (lb.length : Int)) = false := by rw [beq_eq_false_iff_ne]; omega
    have z4 : ((la.length : Int) != (lb.length : Int)) = true := by rw [bne, z3]; rfl
    clear hl hm
    go_enter Tryz.func34, Tryz.ntmps34
    go_upto_region 1 with fail
    rw [← hW]
    clear hW
    go_wp2_with fail
    go_ret
    exact ⟨by rw [HD.out]; rfl, HB.out⟩
  have z3 : ((la.length : Int) == (lb.length : Int)) = true := by rw [beq_iff_eq]; omega
  have z4 : ((la.length : Int) != (lb.length : Int)) = false := by rw [bne, z3]; rfl
  have HL := Lib.hid hl
  have HM := Lib.hid hm
  clear hl hm
  go_enter Tryz.func34, Tryz.ntmps34
  go_upto_region 1 with fail
  rw [← hW]
  clear hW
  go_wp2_with fail
  go_loopg [5] sa.length (fun g t wx => ∃ i : Nat, i ≤ sa.length ∧ g = sa.length - i ∧ t = .int .i64 (i : Int) ∧ Hid (∀ j, j < i → sa.getD j stp0 = sb.getD j stp0) ∧ Hid (Below W0.heap.size W0 wx))
  case atStart => exact ⟨0, Nat.zero_le _, rfl, rfl, fun j hj => absurd hj (by omega), Below.refl _ _⟩
  case round =>
    clear x0 x1 y0 y1 lx ly
    obtain ⟨i, hi, rfl, rfl, heq, hbl⟩ := hrel
    have x0 : wr.cell? ⟨w.heap.size, 0, none⟩ = some (.slice p sa.length c) := (BX.out.after hbl.out).cell 0
    have y0 : wr.cell? ⟨w.heap.size + 1, 0, none⟩ = some (.slice q sb.length d) := (BY.out.after hbl.out).cell 0
    have x1 : wr.cell? ⟨w.heap.size, 1, none⟩ = some (.slice p2 la.length c2) := (BX.out.after hbl.out).cell 1
    have lxr := (BX.out.after hbl.out).lt
    have lyr := (BY.out.after hbl.out).lt
    by_cases hlt : i < sa.length
    · obtain ⟨ba, oa, ca, ea, _, _, lba, hca⟩ := (H1.out.2.after hbl.out).at_ (by omega)
      obtain ⟨bb, ob, cb, eb, _, _, lbb, hcb⟩ := (K1.out.2.after hbl.out).at_ (by have := HL.out; omega)
      injection ea with ea _ ec
      injection eb with eb _ ed
      subst ea eb ec ed
      have hib : i < sb.length := by have := HL.out; omega
      have a0 : wr.cell? ⟨ba, oa + i * 4, none⟩ = some (.int .u8 ((sa.getD i stp0).kind : Int)) := hca i hlt 0 (by omega)
      have a1 : wr.cell? ⟨ba, oa + i * 4 + 1, none⟩ = some (.int .i64 (sa.getD i stp0).host) := hca i hlt 1 (by omega)
      have a2 : wr.cell? ⟨ba, oa + i * 4 + 2, none⟩ = some (.int .i64 (sa.getD i stp0).srv) := hca i hlt 2 (by omega)
      have a3 : wr.cell? ⟨ba, oa + i * 4 + 3, none⟩ = some (.int .i64 (sa.getD i stp0).ver) := hca i hlt 3 (by omega)
      have b0 : wr.cell? ⟨bb, ob + i * 4, none⟩ = some (.int .u8 ((sb.getD i stp0).kind : Int)) := hcb i hib 0 (by omega)
      have b1 : wr.cell? ⟨bb, ob + i * 4 + 1, none⟩ = some (.int .i64 (sb.getD i stp0).host) := hcb i hib 1 (by omega)
      have b2 : wr.cell? ⟨bb, ob + i * 4 + 2, none⟩ = some (.int .i64 (sb.getD i stp0).srv) := hcb i hib 2 (by omega)
      have b3 : wr.cell? ⟨bb, ob + i * 4 + 3, none⟩ = some (.int .i64 (sb.getD i stp0).ver) := hcb i hib 3 (by omega)
      clear hca hcb
      have il : (i : Int) < (sa.length : Int) := by omega
      have il2 : (i : Int) < (sb.length : Int) := by omega
      have i0 : (0 : Int) ≤ (i : Int) := by omega
      by_cases he : sa.getD i stp0 = sb.getD i stp0
      · obtain ⟨s, hs⟩ : ∃ s, sa.getD i stp0 = s := ⟨_, rfl⟩
        rw [hs] at a0 a1 a2 a3 he
        rw [← he] at b0 b1 b2 b3
        have HS := Lib.hid hs
        have HE := Lib.hid he
        clear hs he
        go_wp2_with fail
        go_quiet (fail)
        go_wp2_with fail
        go_roundg (sa.length - (i + 1))
        case measure => omega
        case rel =>
          refine ⟨i + 1, by omega, rfl, by go_num, fun j hj => ?_, hbl.out.trans (below_drewN _ _ _)⟩
          rcases Nat.lt_or_ge j i with h | h
          · exact heq.out j h
          · obtain rfl : j = i := by omega
            rw [HS.out, ← HE.out]
      · have HD : Hid (decide (SamePl sa la sb lb) = false) := decide_eq_false (fun e => he (by rw [e.1]))
        obtain ⟨s, hs⟩ : ∃ s, sa.getD i stp0 = s := ⟨_, rfl⟩
        obtain ⟨t, ht⟩ : ∃ t, sb.getD i stp0 = t := ⟨_, rfl⟩
        rw [hs] at a0 a1 a2 a3 he
        rw [ht] at b0 b1 b2 b3 he
        have hne : ¬ (s.kind = t.kind ∧ s.host = t.host ∧ s.srv = t.srv ∧ s.ver = t.ver) := by
          rintro ⟨e1, e2, e3, e4⟩
          exact he (by cases s; cases t; simp_all)
        have HNE := Lib.hid hne
        clear hs ht he hne
        by_cases e_kind : s.kind = t.kind
        rotate_left
        · have r_kind : ((s.kind : Int) == (t.kind : Int)) = false := by rw [beq_eq_false_iff_ne]; omega
          clear e_kind
          go_wp2_with fail
          go_quiet (fail)
          go_wp2_with fail
          go_ret
          exact ⟨by rw [HD.out]; rfl, HB.out.trans ((hbl.out.trans (below_drewN _ _ _)).mono HB.out.size)⟩
        by_cases e_host : s.host = t.host
        rotate_left
        · have r_kind : ((s.kind : Int) == (t.kind : Int)) = true := by rw [beq_iff_eq]; omega
          have r_host : (s.host == t.host) = false := by rw [beq_eq_false_iff_ne]; omega
          clear e_kind e_host
          go_wp2_with fail
          go_quiet (fail)
          go_wp2_with fail
          go_ret
          exact ⟨by rw [HD.out]; rfl, HB.out.trans ((hbl.out.trans (below_drewN _ _ _)).mono HB.out.size)⟩
        by_cases e_srv : s.srv = t.srv
        rotate_left
        · have r_kind : ((s.kind : Int) == (t.kind : Int)) = true := by rw [beq_iff_eq]; omega
          have r_host : (s.host == t.host) = true := by rw [beq_iff_eq]; omega
          have r_srv : (s.srv == t.srv) = false := by rw [beq_eq_false_iff_ne]; omega
          clear e_kind e_host e_srv
          go_wp2_with fail
          go_quiet (fail)
          go_wp2_with fail
          go_ret
          exact ⟨by rw [HD.out]; rfl, HB.out.trans ((hbl.out.trans (below_drewN _ _ _)).mono HB.out.size)⟩
        have e_ver : s.ver ≠ t.ver := fun e => HNE.out ⟨e_kind, e_host, e_srv, e⟩
        have r_kind : ((s.kind : Int) == (t.kind : Int)) = true := by rw [beq_iff_eq]; omega
        have r_host : (s.host == t.host) = true := by rw [beq_iff_eq]; omega
        have r_srv : (s.srv == t.srv) = true := by rw [beq_iff_eq]; omega
        have r_ver : (s.ver == t.ver) = false := by rw [beq_eq_false_iff_ne]; omega
        clear e_kind e_host e_srv e_ver
        go_wp2_with fail
        go_quiet (fail)
        go_wp2_with fail
        go_ret
        exact ⟨by rw [HD.out]; rfl, HB.out.trans ((hbl.out.trans (below_drewN _ _ _)).mono HB.out.size)⟩
    · obtain rfl : i = sa.length := by omega
      have HSS : Hid (sa = sb) := by
        rcases eq_or_differ stp0 sa sb HL.out with e | ⟨j, h1, h2, _⟩
        · exact e
        · exact absurd (heq.out j h1) h2
      clear heq hlt
      go_wp2_with fail
      go_loopg [6] la.length (fun g t wx => ∃ i : Nat, i ≤ la.length ∧ g = la.length - i ∧ t = .int .i64 (i : Int) ∧ Hid (∀ j, j < i → la.getD j [] = lb.getD j []) ∧ Hid (Below W0.heap.size W0 wx))
      case atStart => exact ⟨0, Nat.zero_le _, rfl, rfl, fun j hj => absurd hj (by omega), hbl.out⟩
      case round =>
        clear x0 y0 x1 lxr lyr hbl
        obtain ⟨i, hi, rfl, rfl, heq, hbl⟩ := hrel
        have x1 : wr.cell? ⟨w.heap.size, 1, none⟩ = some (.slice p2 la.length c2) := (BX.out.after hbl.out).cell 1
        have y1 : wr.cell? ⟨w.heap.size + 1, 1, none⟩ = some (.slice q2 lb.length d2) := (BY.out.after hbl.out).cell 1
        have lxr := (BX.out.after hbl.out).lt
        have lyr := (BY.out.after hbl.out).lt
        by_cases hlt : i < la.length
        · obtain ⟨ba, oa, ca, ea, _, _, lba, hca⟩ := (HU1.out.after hbl.out).at_ (by omega)
          obtain ⟨bb, ob, cb, eb, _, _, lbb, hcb⟩ := (HU2.out.after hbl.out).at_ (by have := HM.out; omega)
          injection ea with ea _ ec
          injection eb with eb _ ed
          subst ea eb ec ed
          have hib : i < lb.length := by have := HM.out; omega
          have a0 : wr.cell? ⟨ba, oa + i, none⟩ = some (u1 i) := by have := hca i hlt 0 (by omega); simpa using this
          have b0 : wr.cell? ⟨bb, ob + i, none⟩ = some (u2 i) := by have := hcb i hib 0 (by omega); simpa using this
          clear hca hcb
          have HXI := Lib.hid ((HI1.out i hlt).after hbl.out)
          have HYI := Lib.hid ((HI2.out i hib).after hbl.out)
          obtain ⟨ux, hux⟩ : ∃ ux, u1 i = ux := ⟨_, rfl⟩
          obtain ⟨uy, huy⟩ : ∃ uy, u2 i = uy := ⟨_, rfl⟩
          obtain ⟨xl, hxl⟩ : ∃ xl, la.getD i [] = xl := ⟨_, rfl⟩
          obtain ⟨yl, hyl⟩ : ∃ yl, lb.getD i [] = yl := ⟨_, rfl⟩
          have HXL := Lib.hid hxl
          have HYL := Lib.hid hyl
          rw [hux, hxl] at HXI
          rw [huy, hyl] at HYI
          rw [hux] at a0
          rw [huy] at b0
          obtain ⟨pe, hpe⟩ : ∃ pe, decide (xl = yl) = pe := ⟨_, rfl⟩
          have HPE := Lib.hid hpe
          have il : (i : Int) < (la.length : Int) := by omega
          have il2 : (i : Int) < (lb.length : Int) := by omega
          have i0 : (0 : Int) ≤ (i : Int) := by omega
          clear hux huy hxl hyl hpe
          go_upto_region 11 with fail
          refine wp_region_gj (J := GJ _ (fun _ => SJ 0 (fun κ => match κ with | 0 => .eq (.pointer (some ⟨w.heap.size, 1, none⟩)) | 1 => .eq (.slice (some ⟨ba, oa, none⟩) la.length c2) | 2 => .eq (.int .i64 (i : Int)) | 3 => .eq (.pointer (some ⟨ba, oa + i, none⟩)) | 4 => .eq (ux) | 5 => .eq (.pointer (some ⟨w.heap.size + 1, 1, none⟩)) | 6 => .eq (.slice (some ⟨bb, ob, none⟩) lb.length d2) | 7 => .eq (.int .i64 (i : Int)) | 8 => .eq (.pointer (some ⟨bb, ob + i, none⟩)) | 9 => .eq (uy) | 10 => .eq (.bool pe) | 11 => .eq (.bool (!pe)) | _ => .any)) (fun _ _ w => Below wr.heap.size wr w) _) (by kernel_rfl) ?_ ?_ (GJ.start (below_dr (Below.refl _ _)))
          · intro listed a_ w9 i_ hr hj
            obtain ⟨hi12, hun, _, _, _⟩ := ready_mem hr
            have h12 : i_ ∈ List.range 12 := List.mem_range.2 hi12
            simp only [List.range, List.range.loop, List.mem_cons, List.not_mem_nil, or_false] at h12
            obtain ⟨f, rfl, hcm, hf⟩ := hj.opened [48, 49, 50, 51, 52, 53, 54, 55, 56, 57, 58, 59] (by kernel_rfl)
            replace hcm : Below wr.heap.size wr w9 := hcm
            rcases h12 with rfl | rfl | rfl | rfl | rfl | rfl | rfl | rfl | rfl | rfl | rfl | rfl
            · have klt := Nat.lt_of_lt_of_le lxr hcm.size
              refine GJ.op hj (by kernel_rfl) hr rfl [48, 49, 50, 51, 52, 53, 54, 55, 56, 57, 58, 59] (by kernel_rfl) (fun K hK => ?_)
              simp only [Act.put, List.foldl_cons, List.foldl_nil, List.setIfInBounds_toArray, List.set_cons_zero, List.set_cons_succ] at hK ⊢
              clear hj hf
              go_simp
              exact hK _ _ (fun k v _ _ h => h.keep (Below.refl _ _)) (fun t ht => SJ.of (.eq (.pointer (some ⟨w.heap.size, 1, none⟩))) rfl rfl) (hcm.trans ((Below.refl _ _).mono hcm.size))
            · have e1 : f 48 = .pointer (some ⟨w.heap.size, 1, none⟩) := hf 0 _ _ rfl rfl (up_dep hr (by kernel_rfl))
              have kx := keep_cell hcm x1
              have klt := Nat.lt_of_lt_of_le lxr hcm.size
              refine GJ.op hj (by kernel_rfl) hr rfl [48, 49, 50, 51, 52, 53, 54, 55, 56, 57, 58, 59] (by kernel_rfl) (fun K hK => ?_)
              simp only [Act.put, List.foldl_cons, List.foldl_nil, List.setIfInBounds_toArray, List.set_cons_zero, List.set_cons_succ] at hK ⊢
              clear hj hf
              rw [e1] at hK ⊢
              clear e1
              go_simp
              exact hK _ _ (fun k v _ _ h => h.keep (Below.refl _ _)) (fun t ht => SJ.of (.eq (.slice (some ⟨ba, oa, none⟩) la.length c2)) rfl rfl) (hcm.trans ((Below.refl _ _).mono hcm.size))
            · refine GJ.op hj (by kernel_rfl) hr rfl [48, 49, 50, 51, 52, 53, 54, 55, 56, 57, 58, 59] (by kernel_rfl) (fun K hK => ?_)
              simp only [Act.put, List.foldl_cons, List.foldl_nil, List.setIfInBounds_toArray, List.set_cons_zero, List.set_cons_succ] at hK ⊢
              clear hj hf
              go_simp
              exact hK _ _ (fun k v _ _ h => h.keep (Below.refl _ _)) (fun t ht => SJ.of (.eq (.int .i64 (i : Int))) rfl rfl) (hcm.trans ((Below.refl _ _).mono hcm.size))
            · have e1 : f 49 = .slice (some ⟨ba, oa, none⟩) la.length c2 := hf 1 _ _ rfl rfl (up_dep hr (by kernel_rfl))
              have e2 : f 50 = .int .i64 (i : Int) := hf 2 _ _ rfl rfl (up_dep hr (by kernel_rfl))
              have klt := Nat.lt_of_lt_of_le lba hcm.size
              refine GJ.op hj (by kernel_rfl) hr rfl [48, 49, 50, 51, 52, 53, 54, 55, 56, 57, 58, 59] (by kernel_rfl) (fun K hK => ?_)
              simp only [Act.put, List.foldl_cons, List.foldl_nil, List.setIfInBounds_toArray, List.set_cons_zero, List.set_cons_succ] at hK ⊢
              clear hj hf
              rw [e1, e2] at hK ⊢
              clear e1 e2
              go_simp
              exact hK _ _ (fun k v _ _ h => h.keep (Below.refl _ _)) (fun t ht => SJ.of (.eq (.pointer (some ⟨ba, oa + i, none⟩))) rfl rfl) (hcm.trans ((Below.refl _ _).mono hcm.size))
            · have e1 : f 51 = .pointer (some ⟨ba, oa + i, none⟩) := hf 3 _ _ rfl rfl (up_dep hr (by kernel_rfl))
              have kx := keep_cell hcm a0
              have klt := Nat.lt_of_lt_of_le lba hcm.size
              refine GJ.op hj (by kernel_rfl) hr rfl [48, 49, 50, 51, 52, 53, 54, 55, 56, 57, 58, 59] (by kernel_rfl) (fun K hK => ?_)
              simp only [Act.put, List.foldl_cons, List.foldl_nil, List.setIfInBounds_toArray, List.set_cons_zero, List.set_cons_succ] at hK ⊢
              clear hj hf
              rw [e1] at hK ⊢
              clear e1
              go_simp
              exact hK _ _ (fun k v _ _ h => h.keep (Below.refl _ _)) (fun t ht => SJ.of (.eq (ux)) rfl rfl) (hcm.trans ((Below.refl _ _).mono hcm.size))
            · have klt := Nat.lt_of_lt_of_le lyr hcm.size
              refine GJ.op hj (by kernel_rfl) hr rfl [48, 49, 50, 51, 52, 53, 54, 55, 56, 57, 58, 59] (by kernel_rfl) (fun K hK => ?_)
              simp only [Act.put, List.foldl_cons, List.foldl_nil, List.setIfInBounds_toArray, List.set_cons_zero, List.set_cons_succ] at hK ⊢
              clear hj hf
              go_simp
              exact hK _ _ (fun k v _ _ h => h.keep (Below.refl _ _)) (fun t ht => SJ.of (.eq (.pointer (some ⟨w.heap.size + 1, 1, none⟩))) rfl rfl) (hcm.trans ((Below.refl _ _).mono hcm.size))
            · have e1 : f 53 = .pointer (some ⟨w.heap.size + 1, 1, none⟩) := hf 5 _ _ rfl rfl (up_dep hr (by kernel_rfl))
              have kx := keep_cell hcm y1
              have klt := Nat.lt_of_lt_of_le lyr hcm.size
              refine GJ.op hj (by kernel_rfl) hr rfl [48, 49, 50, 51, 52, 53, 54, 55, 56, 57, 58, 59] (by kernel_rfl) (fun K hK => ?_)
              simp only [Act.put, List.foldl_cons, List.foldl_nil, List.setIfInBounds_toArray, List.set_cons_zero, List.set_cons_succ] at hK ⊢
              clear hj hf
              rw [e1] at hK ⊢
              clear e1
              go_simp
              exact hK _ _ (fun k v _ _ h => h.keep (Below.refl _ _)) (fun t ht => SJ.of (.eq (.slice (some ⟨bb, ob, none⟩) lb.length d2)) rfl rfl) (hcm.trans ((Below.refl _ _).mono hcm.size))
            · refine GJ.op hj (by kernel_rfl) hr rfl [48, 49, 50, 51, 52, 53, 54, 55, 56, 57, 58, 59] (by kernel_rfl) (fun K hK => ?_)
              simp only [Act.put, List.foldl_cons, List.foldl_nil, List.setIfInBounds_toArray, List.set_cons_zero, List.set_cons_succ] at hK ⊢
              clear hj hf
              go_simp
              exact hK _ _ (fun k v _ _ h => h.keep (Below.refl _ _)) (fun t ht => SJ.of (.eq (.int .i64 (i : Int))) rfl rfl) (hcm.trans ((Below.refl _ _).mono hcm.size))
            · have e1 : f 54 = .slice (some ⟨bb, ob, none⟩) lb.length d2 := hf 6 _ _ rfl rfl (up_dep hr (by kernel_rfl))
              have e2 : f 55 = .int .i64 (i : Int) := hf 7 _ _ rfl rfl (up_dep hr (by kernel_rfl))
              have klt := Nat.lt_of_lt_of_le lbb hcm.size
              refine GJ.op hj (by kernel_rfl) hr rfl [48, 49, 50, 51, 52, 53, 54, 55, 56, 57, 58, 59] (by kernel_rfl) (fun K hK => ?_)
              simp only [Act.put, List.foldl_cons, List.foldl_nil, List.setIfInBounds_toArray, List.set_cons_zero, List.set_cons_succ] at hK ⊢
              clear hj hf
              rw [e1, e2] at hK ⊢
              clear e1 e2
              go_simp
              exact hK _ _ (fun k v _ _ h => h.keep (Below.refl _ _)) (fun t ht => SJ.of (.eq (.pointer (some ⟨bb, ob + i, none⟩))) rfl rfl) (hcm.trans ((Below.refl _ _).mono hcm.size))
            · have e1 : f 56 = .pointer (some ⟨bb, ob + i, none⟩) := hf 8 _ _ rfl rfl (up_dep hr (by kernel_rfl))
              have kx := keep_cell hcm b0
              have klt := Nat.lt_of_lt_of_le lbb hcm.size
              refine GJ.op hj (by kernel_rfl) hr rfl [48, 49, 50, 51, 52, 53, 54, 55, 56, 57, 58, 59] (by kernel_rfl) (fun K hK => ?_)
              simp only [Act.put, List.foldl_cons, List.foldl_nil, List.setIfInBounds_toArray, List.set_cons_zero, List.set_cons_succ] at hK ⊢
              clear hj hf
              rw [e1] at hK ⊢
              clear e1
              go_simp
              exact hK _ _ (fun k v _ _ h => h.keep (Below.refl _ _)) (fun t ht => SJ.of (.eq (uy)) rfl rfl) (hcm.trans ((Below.refl _ _).mono hcm.size))
            · have e1 : f 52 = ux := hf 4 _ _ rfl rfl (up_dep hr (by kernel_rfl))
              have e2 : f 57 = uy := hf 9 _ _ rfl rfl (up_dep hr (by kernel_rfl))
              refine GJ.op hj (by kernel_rfl) hr rfl [48, 49, 50, 51, 52, 53, 54, 55, 56, 57, 58, 59] (by kernel_rfl) (fun K hK => ?_)
              simp only [Act.put, List.foldl_cons, List.foldl_nil, List.setIfInBounds_toArray, List.set_cons_zero, List.set_cons_succ] at hK ⊢
              clear hj hf
              rw [e1, e2] at hK ⊢
              clear e1 e2
              go_simp
              refine (rNums_c w9 ux uy xl yl (HXI.out.after hcm) (HYI.out.after hcm)).mono ?_
              rw [HPE.out]
              rintro e w11 ⟨rfl, hb11⟩
              exact hK _ _ (fun k v _ _ h => h.keep hb11) (fun t ht => SJ.of (.eq (.bool pe)) rfl rfl) (hcm.trans (hb11.mono hcm.size))
            · have e1 : f 58 = .bool pe := hf 10 _ _ rfl rfl (up_dep hr (by kernel_rfl))
              refine GJ.op hj (by kernel_rfl) hr rfl [48, 49, 50, 51, 52, 53, 54, 55, 56, 57, 58, 59] (by kernel_rfl) (fun K hK => ?_)
              simp only [Act.put, List.foldl_cons, List.foldl_nil, List.setIfInBounds_toArray, List.set_cons_zero, List.set_cons_succ] at hK ⊢
              clear hj hf
              rw [e1] at hK ⊢
              clear e1
              go_simp
              exact hK _ _ (fun k v _ _ h => h.keep (Below.refl _ _)) (fun t ht => SJ.of (.eq (.bool (!pe))) rfl rfl) (hcm.trans ((Below.refl _ _).mono hcm.size))
          · intro listed a_ w10 hr hj
            have hu : ∀ k, k < 12 → up listed k := fun k hk => all_up (by kernel_rfl) hj.lsize hr k hk
            obtain ⟨f, rfl, hcm, hf⟩ := hj.opened [48, 49, 50, 51, 52, 53, 54, 55, 56, 57, 58, 59] (by kernel_rfl)
            replace hcm : Below wr.heap.size wr w10 := hcm
            have HLast : f 59 = .bool (!pe) := hf 11 _ _ rfl rfl (hu 11 (by omega))
            have HBR := Lib.hid hcm
            clear hf hj hr hu hcm
            simp only [List.foldl_cons, List.foldl_nil, List.setIfInBounds_toArray, List.set_cons_zero, List.set_cons_succ]
            rw [HLast]
            clear HLast
            generalize f 48 = g48
            generalize f 49 = g49
            generalize f 50 = g50
            generalize f 51 = g51
            generalize f 52 = g52
            generalize f 53 = g53
            generalize f 54 = g54
            generalize f 55 = g55
            generalize f 56 = g56
            generalize f 57 = g57
            generalize f 58 = g58
            clear f
            cases pe with
            | true =>
              go_wp2_with fail
              go_roundg (la.length - (i + 1))
              case measure => omega
              case rel =>
                refine ⟨i + 1, by omega, rfl, by go_num, fun j hj => ?_, hbl.out.trans (HBR.out.mono hbl.out.size)⟩
                rcases Nat.lt_or_ge j i with h | h
                · exact heq.out j h
                · obtain rfl : j = i := by omega
                  rw [HXL.out, HYL.out]
                  exact of_decide_eq_true HPE.out
            | false =>
              have HD : Hid (decide (SamePl sa la sb lb) = false) := decide_eq_false (fun e => by
                have h1 := of_decide_eq_false HPE.out
                rw [← HXL.out, ← HYL.out] at h1
                exact h1 (by rw [e.2]))
              go_wp2_with fail
              go_ret
              exact ⟨by rw [HD.out]; rfl, HB.out.trans ((hbl.out.trans (HBR.out.mono hbl.out.size)).mono HB.out.size)⟩
        · obtain rfl : i = la.length := by omega
          have HD : Hid (decide (SamePl sa la sb lb) = true) := by
            refine decide_eq_true ⟨HSS.out, ?_⟩
            rcases eq_or_differ [] la lb HM.out with e | ⟨j, h1, h2, _⟩
            · exact e
            · exact absurd (heq.out j h1) h2
          clear heq
          go_wp2_with fail
          go_ret
          exact ⟨by rw [HD.out]; rfl, HB.out.trans (hbl.out.mono HB.out.size)⟩
set_option maxRecDepth 100000 in
set_option maxHeartbeats 2000000 in
theorem rSame_c (w : World) (v u : Value) (a b : Rec) (h : IsR w v a) (k : IsR w u b) : Calls Tryz.prog 16 #[v, u] w (RetB w (decide (a = b))) := by
  obtain ⟨_, vs, va, rfl, h1, h2⟩ := h
  obtain ⟨_, us, ua, rfl, k1, k2⟩ := k
  obtain ⟨W0, hW, bx, by', hsz, hb0⟩ := start2 w #[.int .u8 (a.kind : Int), .int .i64 a.place, .int .i64 a.id, .int .i64 a.lease, .int .u8 (a.ans : Int), vs, va] #[.int .u8 (b.kind : Int), .int .i64 b.place, .int .i64 b.id, .int .i64 b.lease, .int .u8 (b.ans : Int), us, ua] 29
  have H1 := Lib.hid (h1.after hb0)
  have H2 := Lib.hid (h2.after hb0)
  have K1 := Lib.hid (k1.after hb0)
  have K2 := Lib.hid (k2.after hb0)
  have HB := Lib.hid hb0
  have BX := Lib.hid bx
  have BY := Lib.hid by'
  clear h1 h2 k1 k2 hb0 bx by' hsz
  show Calls _ _ #[.agg #[.int .u8 (a.kind : Int), .int .i64 a.place, .int .i64 a.id, .int .i64 a.lease, .int .u8 (a.ans : Int), vs, va], .agg #[.int .u8 (b.kind : Int), .int .i64 b.place, .int .i64 b.id, .int .i64 b.lease, .int .u8 (b.ans : Int), us, ua]] w _
  by_cases e_kind : a.kind = b.kind
  rotate_left
  · have HE : Hid (decide (a = b) = false) := decide_eq_false (fun e => e_kind (by rw [e]))
    have q_kind : ((a.kind : Int) == (b.kind : Int)) = false := by rw [beq_eq_false_iff_ne]; omega
    clear e_kind
    have x0 : W0.cell? ⟨w.heap.size, 0, none⟩ = some (.int .u8 (a.kind : Int)) := BX.out.cell 0
    have x1 : W0.cell? ⟨w.heap.size, 1, none⟩ = some (.int .i64 a.place) := BX.out.cell 1
    have x2 : W0.cell? ⟨w.heap.size, 2, none⟩ = some (.int .i64 a.id) := BX.out.cell 2
    have x3 : W0.cell? ⟨w.heap.size, 3, none⟩ = some (.int .i64 a.lease) := BX.out.cell 3
    have x4 : W0.cell? ⟨w.heap.size, 4, none⟩ = some (.int .u8 (a.ans : Int)) := BX.out.cell 4
    have x5 : W0.cell? ⟨w.heap.size, 5, none⟩ = some (vs) := BX.out.cell 5
    have x6 : W0.cell? ⟨w.heap.size, 6, none⟩ = some (va) := BX.out.cell 6
    have y0 : W0.cell? ⟨w.heap.size + 1, 0, none⟩ = some (.int .u8 (b.kind : Int)) := BY.out.cell 0
    have y1 : W0.cell? ⟨w.heap.size + 1, 1, none⟩ = some (.int .i64 b.place) := BY.out.cell 1
    have y2 : W0.cell? ⟨w.heap.size + 1, 2, none⟩ = some (.int .i64 b.id) := BY.out.cell 2
    have y3 : W0.cell? ⟨w.heap.size + 1, 3, none⟩ = some (.int .i64 b.lease) := BY.out.cell 3
    have y4 : W0.cell? ⟨w.heap.size + 1, 4, none⟩ = some (.int .u8 (b.ans : Int)) := BY.out.cell 4
    have y5 : W0.cell? ⟨w.heap.size + 1, 5, none⟩ = some (us) := BY.out.cell 5
    have y6 : W0.cell? ⟨w.heap.size + 1, 6, none⟩ = some (ua) := BY.out.cell 6
    have lx := (BX.out).lt
    have ly := (BY.out).lt
    go_enter Tryz.func16, Tryz.ntmps16
    go_upto_region 1 with fail
    rw [← hW]
    clear hW
    go_wp2_with fail
    go_ret
    rw [HE.out]
    exact ⟨rfl, HB.out⟩
  by_cases e_place : a.place = b.place
  rotate_left
  · have HE : Hid (decide (a = b) = false) := decide_eq_false (fun e => e_place (by rw [e]))
    have q_kind : ((a.kind : Int) == (b.kind : Int)) = true := by rw [beq_iff_eq]; omega
    have q_place : (a.place == b.place) = false := by rw [beq_eq_false_iff_ne]; omega
    clear e_kind e_place
    have x0 : W0.cell? ⟨w.heap.size, 0, none⟩ = some (.int .u8 (a.kind : Int)) := BX.out.cell 0
    have x1 : W0.cell? ⟨w.heap.size, 1, none⟩ = some (.int .i64 a.place) := BX.out.cell 1
    have x2 : W0.cell? ⟨w.heap.size, 2, none⟩ = some (.int .i64 a.id) := BX.out.cell 2
    have x3 : W0.cell? ⟨w.heap.size, 3, none⟩ = some (.int .i64 a.lease) := BX.out.cell 3
    have x4 : W0.cell? ⟨w.heap.size, 4, none⟩ = some (.int .u8 (a.ans : Int)) := BX.out.cell 4
    have x5 : W0.cell? ⟨w.heap.size, 5, none⟩ = some (vs) := BX.out.cell 5
    have x6 : W0.cell? ⟨w.heap.size, 6, none⟩ = some (va) := BX.out.cell 6
    have y0 : W0.cell? ⟨w.heap.size + 1, 0, none⟩ = some (.int .u8 (b.kind : Int)) := BY.out.cell 0
    have y1 : W0.cell? ⟨w.heap.size + 1, 1, none⟩ = some (.int .i64 b.place) := BY.out.cell 1
    have y2 : W0.cell? ⟨w.heap.size + 1, 2, none⟩ = some (.int .i64 b.id) := BY.out.cell 2
    have y3 : W0.cell? ⟨w.heap.size + 1, 3, none⟩ = some (.int .i64 b.lease) := BY.out.cell 3
    have y4 : W0.cell? ⟨w.heap.size + 1, 4, none⟩ = some (.int .u8 (b.ans : Int)) := BY.out.cell 4
    have y5 : W0.cell? ⟨w.heap.size + 1, 5, none⟩ = some (us) := BY.out.cell 5
    have y6 : W0.cell? ⟨w.heap.size + 1, 6, none⟩ = some (ua) := BY.out.cell 6
    have lx := (BX.out).lt
    have ly := (BY.out).lt
    go_enter Tryz.func16, Tryz.ntmps16
    go_upto_region 1 with fail
    rw [← hW]
    clear hW
    go_wp2_with fail
    go_ret
    rw [HE.out]
    exact ⟨rfl, HB.out⟩
  by_cases e_id : a.id = b.id
  rotate_left
  · have HE : Hid (decide (a = b) = false) := decide_eq_false (fun e => e_id (by rw [e]))
    have q_kind : ((a.kind : Int) == (b.kind : Int)) = true := by rw [beq_iff_eq]; omega
    have q_place : (a.place == b.place) = true := by rw [beq_iff_eq]; omega
    have q_id : (a.id == b.id) = false := by rw [beq_eq_false_iff_ne]; omega
    clear e_kind e_place e_id
    have x0 : W0.cell? ⟨w.heap.size, 0, none⟩ = some (.int .u8 (a.kind : Int)) := BX.out.cell 0
    have x1 : W0.cell? ⟨w.heap.size, 1, none⟩ = some (.int .i64 a.place) := BX.out.cell 1
    have x2 : W0.cell? ⟨w.heap.size, 2, none⟩ = some (.int .i64 a.id) := BX.out.cell 2
    have x3 : W0.cell? ⟨w.heap.size, 3, none⟩ = some (.int .i64 a.lease) := BX.out.cell 3
    have x4 : W0.cell? ⟨w.heap.size, 4, none⟩ = some (.int .u8 (a.ans : Int)) := BX.out.cell 4
    have x5 : W0.cell? ⟨w.heap.size, 5, none⟩ = some (vs) := BX.out.cell 5
    have x6 : W0.cell? ⟨w.heap.size, 6, none⟩ = some (va) := BX.out.cell 6
    have y0 : W0.cell? ⟨w.heap.size + 1, 0, none⟩ = some (.int .u8 (b.kind : Int)) := BY.out.cell 0
    have y1 : W0.cell? ⟨w.heap.size + 1, 1, none⟩ = some (.int .i64 b.place) := BY.out.cell 1
    have y2 : W0.cell? ⟨w.heap.size + 1, 2, none⟩ = some (.int .i64 b.id) := BY.out.cell 2
    have y3 : W0.cell? ⟨w.heap.size + 1, 3, none⟩ = some (.int .i64 b.lease) := BY.out.cell 3
    have y4 : W0.cell? ⟨w.heap.size + 1, 4, none⟩ = some (.int .u8 (b.ans : Int)) := BY.out.cell 4
    have y5 : W0.cell? ⟨w.heap.size + 1, 5, none⟩ = some (us) := BY.out.cell 5
    have y6 : W0.cell? ⟨w.heap.size + 1, 6, none⟩ = some (ua) := BY.out.cell 6
    have lx := (BX.out).lt
    have ly := (BY.out).lt
    go_enter Tryz.func16, Tryz.ntmps16
    go_upto_region 1 with fail
    rw [← hW]
    clear hW
    go_wp2_with fail
    go_ret
    rw [HE.out]
    exact ⟨rfl, HB.out⟩
  by_cases e_lease : a.lease = b.lease
  rotate_left
  · have HE : Hid (decide (a = b) = false) := decide_eq_false (fun e => e_lease (by rw [e]))
    have q_kind : ((a.kind : Int) == (b.kind : Int)) = true := by rw [beq_iff_eq]; omega
    have q_place : (a.place == b.place) = true := by rw [beq_iff_eq]; omega
    have q_id : (a.id == b.id) = true := by rw [beq_iff_eq]; omega
    have q_lease : (a.lease == b.lease) = false := by rw [beq_eq_false_iff_ne]; omega
    clear e_kind e_place e_id e_lease
    have x0 : W0.cell? ⟨w.heap.size, 0, none⟩ = some (.int .u8 (a.kind : Int)) := BX.out.cell 0
    have x1 : W0.cell? ⟨w.heap.size, 1, none⟩ = some (.int .i64 a.place) := BX.out.cell 1
    have x2 : W0.cell? ⟨w.heap.size, 2, none⟩ = some (.int .i64 a.id) := BX.out.cell 2
    have x3 : W0.cell? ⟨w.heap.size, 3, none⟩ = some (.int .i64 a.lease) := BX.out.cell 3
    have x4 : W0.cell? ⟨w.heap.size, 4, none⟩ = some (.int .u8 (a.ans : Int)) := BX.out.cell 4
    have x5 : W0.cell? ⟨w.heap.size, 5, none⟩ = some (vs) := BX.out.cell 5
    have x6 : W0.cell? ⟨w.heap.size, 6, none⟩ = some (va) := BX.out.cell 6
    have y0 : W0.cell? ⟨w.heap.size + 1, 0, none⟩ = some (.int .u8 (b.kind : Int)) := BY.out.cell 0
    have y1 : W0.cell? ⟨w.heap.size + 1, 1, none⟩ = some (.int .i64 b.place) := BY.out.cell 1
    have y2 : W0.cell? ⟨w.heap.size + 1, 2, none⟩ = some (.int .i64 b.id) := BY.out.cell 2
    have y3 : W0.cell? ⟨w.heap.size + 1, 3, none⟩ = some (.int .i64 b.lease) := BY.out.cell 3
    have y4 : W0.cell? ⟨w.heap.size + 1, 4, none⟩ = some (.int .u8 (b.ans : Int)) := BY.out.cell 4
    have y5 : W0.cell? ⟨w.heap.size + 1, 5, none⟩ = some (us) := BY.out.cell 5
    have y6 : W0.cell? ⟨w.heap.size + 1, 6, none⟩ = some (ua) := BY.out.cell 6
    have lx := (BX.out).lt
    have ly := (BY.out).lt
    go_enter Tryz.func16, Tryz.ntmps16
    go_upto_region 1 with fail
    rw [← hW]
    clear hW
    go_wp2_with fail
    go_ret
    rw [HE.out]
    exact ⟨rfl, HB.out⟩
  by_cases e_ans : a.ans = b.ans
  rotate_left
  · have HE : Hid (decide (a = b) = false) := decide_eq_false (fun e => e_ans (by rw [e]))
    have q_kind : ((a.kind : Int) == (b.kind : Int)) = true := by rw [beq_iff_eq]; omega
    have q_place : (a.place == b.place) = true := by rw [beq_iff_eq]; omega
    have q_id : (a.id == b.id) = true := by rw [beq_iff_eq]; omega
    have q_lease : (a.lease == b.lease) = true := by rw [beq_iff_eq]; omega
    have q_ans : ((a.ans : Int) == (b.ans : Int)) = false := by rw [beq_eq_false_iff_ne]; omega
    clear e_kind e_place e_id e_lease e_ans
    have x0 : W0.cell? ⟨w.heap.size, 0, none⟩ = some (.int .u8 (a.kind : Int)) := BX.out.cell 0
    have x1 : W0.cell? ⟨w.heap.size, 1, none⟩ = some (.int .i64 a.place) := BX.out.cell 1
    have x2 : W0.cell? ⟨w.heap.size, 2, none⟩ = some (.int .i64 a.id) := BX.out.cell 2
    have x3 : W0.cell? ⟨w.heap.size, 3, none⟩ = some (.int .i64 a.lease) := BX.out.cell 3
    have x4 : W0.cell? ⟨w.heap.size, 4, none⟩ = some (.int .u8 (a.ans : Int)) := BX.out.cell 4
    have x5 : W0.cell? ⟨w.heap.size, 5, none⟩ = some (vs) := BX.out.cell 5
    have x6 : W0.cell? ⟨w.heap.size, 6, none⟩ = some (va) := BX.out.cell 6
    have y0 : W0.cell? ⟨w.heap.size + 1, 0, none⟩ = some (.int .u8 (b.kind : Int)) := BY.out.cell 0
    have y1 : W0.cell? ⟨w.heap.size + 1, 1, none⟩ = some (.int .i64 b.place) := BY.out.cell 1
    have y2 : W0.cell? ⟨w.heap.size + 1, 2, none⟩ = some (.int .i64 b.id) := BY.out.cell 2
    have y3 : W0.cell? ⟨w.heap.size + 1, 3, none⟩ = some (.int .i64 b.lease) := BY.out.cell 3
    have y4 : W0.cell? ⟨w.heap.size + 1, 4, none⟩ = some (.int .u8 (b.ans : Int)) := BY.out.cell 4
    have y5 : W0.cell? ⟨w.heap.size + 1, 5, none⟩ = some (us) := BY.out.cell 5
    have y6 : W0.cell? ⟨w.heap.size + 1, 6, none⟩ = some (ua) := BY.out.cell 6
    have lx := (BX.out).lt
    have ly := (BY.out).lt
    go_enter Tryz.func16, Tryz.ntmps16
    go_upto_region 1 with fail
    rw [← hW]
    clear hW
    go_wp2_with fail
    go_ret
    rw [HE.out]
    exact ⟨rfl, HB.out⟩
  have HF := Lib.hid (And.intro e_kind (And.intro e_place (And.intro e_id (And.intro e_lease e_ans))))
  have q_kind : ((a.kind : Int) == (b.kind : Int)) = true := by rw [beq_iff_eq]; omega
  have q_place : (a.place == b.place) = true := by rw [beq_iff_eq]; omega
  have q_id : (a.id == b.id) = true := by rw [beq_iff_eq]; omega
  have q_lease : (a.lease == b.lease) = true := by rw [beq_iff_eq]; omega
  have q_ans : ((a.ans : Int) == (b.ans : Int)) = true := by rw [beq_iff_eq]; omega
  clear e_kind e_place e_id e_lease e_ans
  have x0 : W0.cell? ⟨w.heap.size, 0, none⟩ = some (.int .u8 (a.kind : Int)) := BX.out.cell 0
  have x1 : W0.cell? ⟨w.heap.size, 1, none⟩ = some (.int .i64 a.place) := BX.out.cell 1
  have x2 : W0.cell? ⟨w.heap.size, 2, none⟩ = some (.int .i64 a.id) := BX.out.cell 2
  have x3 : W0.cell? ⟨w.heap.size, 3, none⟩ = some (.int .i64 a.lease) := BX.out.cell 3
  have x4 : W0.cell? ⟨w.heap.size, 4, none⟩ = some (.int .u8 (a.ans : Int)) := BX.out.cell 4
  have x5 : W0.cell? ⟨w.heap.size, 5, none⟩ = some (vs) := BX.out.cell 5
  have x6 : W0.cell? ⟨w.heap.size, 6, none⟩ = some (va) := BX.out.cell 6
  have y0 : W0.cell? ⟨w.heap.size + 1, 0, none⟩ = some (.int .u8 (b.kind : Int)) := BY.out.cell 0
  have y1 : W0.cell? ⟨w.heap.size + 1, 1, none⟩ = some (.int .i64 b.place) := BY.out.cell 1
  have y2 : W0.cell? ⟨w.heap.size + 1, 2, none⟩ = some (.int .i64 b.id) := BY.out.cell 2
  have y3 : W0.cell? ⟨w.heap.size + 1, 3, none⟩ = some (.int .i64 b.lease) := BY.out.cell 3
  have y4 : W0.cell? ⟨w.heap.size + 1, 4, none⟩ = some (.int .u8 (b.ans : Int)) := BY.out.cell 4
  have y5 : W0.cell? ⟨w.heap.size + 1, 5, none⟩ = some (us) := BY.out.cell 5
  have y6 : W0.cell? ⟨w.heap.size + 1, 6, none⟩ = some (ua) := BY.out.cell 6
  have lx := (BX.out).lt
  have ly := (BY.out).lt
  go_enter Tryz.func16, Tryz.ntmps16
  go_upto_region 1 with fail
  rw [← hW]
  clear hW
  go_wp2_with fail
  refine (rPlan_c W0 vs va us ua a.steps b.steps a.after b.after H1.out H2.out K1.out K2.out).mono ?_
  rintro e w1 ⟨rfl, hb1⟩
  have HB1 : Hid (Below w.heap.size w w1) := HB.out.trans (hb1.mono HB.out.size)
  have HE : Hid (decide (a = b) = decide (SamePl a.steps a.after b.steps b.after)) := by
    show _ = _
    rw [decide_eq_decide]
    exact ⟨fun e => by rw [e]; exact ⟨rfl, rfl⟩, fun e => Rec.ext' HF.out.1 HF.out.2.1 HF.out.2.2.1 HF.out.2.2.2.1 HF.out.2.2.2.2 e.1 e.2⟩
  obtain ⟨pp, hpp⟩ : ∃ pp, decide (SamePl a.steps a.after b.steps b.after) = pp := ⟨_, rfl⟩
  rw [hpp] at HE ⊢
  clear hb1 hpp x0 x1 x2 x3 x4 x5 x6 y0 y1 y2 y3 y4 y5 y6 lx ly
  go_wp2_with fail
  go_ret
  exact ⟨by rw [HE.out]; simp, HB1.out⟩
end Go.Proofs.YtpaoeeamlinaaaaGreatDoor
