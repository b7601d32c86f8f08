/- Journal, walks of the reference: SameAll. -/
import Derived.Test.YtpaoeeamlinaaaaGreatDoorQJV4
import Derived.Test.YtpaoeeamlinaaaaGreatDoorK08
set_option linter.unusedVariables false
namespace Go.Proofs.YtpaoeeamlinaaaaGreatDoor
open Go.RowKit

theorem recV_slices {w : World} {r : Rec} {vs va : Value} (h : IsR w (.agg (recV r vs va)) r) : (∃ p c, vs = .slice p r.steps.length c) ∧ ∃ p c, va = .slice p r.after.length c := by
  obtain ⟨_, vs', va', e, k1, k2⟩ := h
  injection e with e
  simp only [recV, Array.mk.injEq, List.cons.injEq] at e
  obtain ⟨_, _, _, _, _, e5, e6, _⟩ := e
  obtain ⟨a, b, e', _⟩ := k1.2.shape
  obtain ⟨_, k2, _⟩ := k2
  obtain ⟨a', b', e'', _⟩ := k2.shape
  exact ⟨⟨a, b, e5.trans e'⟩, ⟨a', b', e6.trans e''⟩⟩
set_option maxRecDepth 100000 in
set_option maxHeartbeats 2000000 in
theorem rSameAll_c (w : World) (v u : Value) (ra rb : List Rec) (h : SlR w v ra) (k : SlR w u rb) : Calls Tryz.prog 19 #[v, u] w (RetB w (decide (ra = rb))) := by
  obtain ⟨ua, hua, hia⟩ := h
  obtain ⟨ub, hub, hib⟩ := k
  obtain ⟨p, c, rfl, _, _, _⟩ := hua.shape
  obtain ⟨q, d, rfl, _, _, _⟩ := hub.shape
  have HU1 := Lib.hid hua
  have HU2 := Lib.hid hub
  have HI1 := Lib.hid hia
  have HI2 := Lib.hid hib
  clear hua hub hia hib
  by_cases hl : ra.length = rb.length
  rotate_left
  · have HD : Hid (decide (ra = rb) = false) := decide_eq_false (fun e => hl (by rw [e]))
    have z1 : ((ra.length : Int) == (rb.length : Int)) = false := by rw [beq_eq_false_iff_ne]; omega
    have z2 : ((ra.length : Int) != (rb.length : Int)) = true := by rw [bne, z1]; rfl
    clear hl
    go_enter Tryz.func19, Tryz.ntmps19
    go_wp2_with fail
    go_ret
    exact ⟨by rw [HD.out]; rfl, Below.refl _ _⟩
  have z1 : ((ra.length : Int) == (rb.length : Int)) = true := by rw [beq_iff_eq]; omega
  have z2 : ((ra.length : Int) != (rb.length : Int)) = false := by rw [bne, z1]; rfl
  have HL := Lib.hid hl
  clear hl
  go_enter Tryz.func19, Tryz.ntmps19
  go_wp2_with fail
  go_loopg [5] ra.length (fun g t wx => ∃ i : Nat, i ≤ ra.length ∧ g = ra.length - i ∧ t = .int .i64 (i : Int) ∧ Hid (∀ j, j < i → ra.getD j Rec.none = rb.getD j Rec.none) ∧ Hid (Below w.heap.size w wx))
  case atStart => exact ⟨0, Nat.zero_le _, rfl, rfl, fun j hj => absurd hj (by omega), Below.refl _ _⟩
  case round =>
    obtain ⟨i, hi, rfl, rfl, heq, hbl⟩ := hrel
    by_cases hlt : i < ra.length
    · obtain ⟨ba, oa, ca, ea, _, _, lba, hca⟩ := (HU1.out.after hbl.out).at_ (by omega)
      obtain ⟨bb, ob, cb, eb, _, _, lbb, hcb⟩ := (HU2.out.after hbl.out).at_ (by have := HL.out; omega)
      injection ea with ea _ ec
      injection eb with eb _ ed
      subst ea eb ec ed
      have hib : i < rb.length := by have := HL.out; omega
      have HXI := Lib.hid ((HI1.out i hlt).after hbl.out)
      have HYI := Lib.hid ((HI2.out i hib).after hbl.out)
      obtain ⟨x, hx⟩ : ∃ x, ra.getD i Rec.none = x := ⟨_, rfl⟩
      obtain ⟨y, hy⟩ : ∃ y, rb.getD i Rec.none = y := ⟨_, rfl⟩
      obtain ⟨vs, va, huv⟩ : ∃ vs va, ua i = (vs, va) := ⟨_, _, rfl⟩
      obtain ⟨us, uv, huu⟩ : ∃ vs va, ub i = (vs, va) := ⟨_, _, rfl⟩
      have a0 : wr.cell? ⟨ba, oa + i * 7, none⟩ = some (.int .u8 (x.kind : Int)) := by have := hca i hlt 0 (by omega); rw [hx, huv] at this; exact this
      have a1 : wr.cell? ⟨ba, oa + i * 7 + 1, none⟩ = some (.int .i64 x.place) := by have := hca i hlt 1 (by omega); rw [hx, huv] at this; exact this
      have a2 : wr.cell? ⟨ba, oa + i * 7 + 2, none⟩ = some (.int .i64 x.id) := by have := hca i hlt 2 (by omega); rw [hx, huv] at this; exact this
      have a3 : wr.cell? ⟨ba, oa + i * 7 + 3, none⟩ = some (.int .i64 x.lease) := by have := hca i hlt 3 (by omega); rw [hx, huv] at this; exact this
      have a4 : wr.cell? ⟨ba, oa + i * 7 + 4, none⟩ = some (.int .u8 (x.ans : Int)) := by have := hca i hlt 4 (by omega); rw [hx, huv] at this; exact this
      have a5 : wr.cell? ⟨ba, oa + i * 7 + 5, none⟩ = some (vs) := by have := hca i hlt 5 (by omega); rw [hx, huv] at this; exact this
      have a6 : wr.cell? ⟨ba, oa + i * 7 + 6, none⟩ = some (va) := by have := hca i hlt 6 (by omega); rw [hx, huv] at this; exact this
      have b0 : wr.cell? ⟨bb, ob + i * 7, none⟩ = some (.int .u8 (y.kind : Int)) := by have := hcb i hib 0 (by omega); rw [hy, huu] at this; exact this
      have b1 : wr.cell? ⟨bb, ob + i * 7 + 1, none⟩ = some (.int .i64 y.place) := by have := hcb i hib 1 (by omega); rw [hy, huu] at this; exact this
      have b2 : wr.cell? ⟨bb, ob + i * 7 + 2, none⟩ = some (.int .i64 y.id) := by have := hcb i hib 2 (by omega); rw [hy, huu] at this; exact this
      have b3 : wr.cell? ⟨bb, ob + i * 7 + 3, none⟩ = some (.int .i64 y.lease) := by have := hcb i hib 3 (by omega); rw [hy, huu] at this; exact this
      have b4 : wr.cell? ⟨bb, ob + i * 7 + 4, none⟩ = some (.int .u8 (y.ans : Int)) := by have := hcb i hib 4 (by omega); rw [hy, huu] at this; exact this
      have b5 : wr.cell? ⟨bb, ob + i * 7 + 5, none⟩ = some (us) := by have := hcb i hib 5 (by omega); rw [hy, huu] at this; exact this
      have b6 : wr.cell? ⟨bb, ob + i * 7 + 6, none⟩ = some (uv) := by have := hcb i hib 6 (by omega); rw [hy, huu] at this; exact this
      rw [hx, huv] at HXI
      rw [hy, huu] at HYI
      dsimp only at HXI HYI
      have HXL := Lib.hid hx
      have HYL := Lib.hid hy
      clear hca hcb hx hy huv huu
      obtain ⟨⟨pS, cS, rfl⟩, ⟨pL, cL, rfl⟩⟩ := recV_slices HXI.out
      obtain ⟨⟨qS, dS, rfl⟩, ⟨qL, dL, rfl⟩⟩ := recV_slices HYI.out
      obtain ⟨pe, hpe⟩ : ∃ pe, decide (x = y) = pe := ⟨_, rfl⟩
      have HPE := Lib.hid hpe
      have il : (i : Int) < (ra.length : Int) := by omega
      have il2 : (i : Int) < (rb.length : Int) := by omega
      have i0 : (0 : Int) ≤ (i : Int) := by omega
      clear hpe
      go_upto_region 6 with fail
      refine wp_region_gj (J := GJ _ (fun _ => SJ 0 (fun κ => match κ with | 0 => .eq (.slice (some ⟨ba, oa, none⟩) ra.length c) | 1 => .eq (.int .i64 (i : Int)) | 2 => .eq (.pointer (some ⟨ba, oa + i * 7, none⟩)) | 3 => .eq (.agg #[.int .u8 (x.kind : Int), .int .i64 x.place, .int .i64 x.id, .int .i64 x.lease, .int .u8 (x.ans : Int), .slice pS x.steps.length cS, .slice pL x.after.length cL]) | 4 => .eq (.slice (some ⟨bb, ob, none⟩) rb.length d) | 5 => .eq (.int .i64 (i : Int)) | 6 => .eq (.pointer (some ⟨bb, ob + i * 7, none⟩)) | 7 => .eq (.agg #[.int .u8 (y.kind : Int), .int .i64 y.place, .int .i64 y.id, .int .i64 y.lease, .int .u8 (y.ans : Int), .slice qS y.steps.length dS, .slice qL y.after.length dL]) | 8 => .eq (.bool pe) | 9 => .eq (.bool (!pe)) | _ => .any)) (fun _ _ w => Below wr.heap.size wr w) _) (by kernel_rfl) ?_ ?_ (GJ.start (below_dr (Below.refl _ _)))
      · intro listed a_ w9 i_ hr hj
        obtain ⟨hi12, hun, _, _, _⟩ := ready_mem hr
        have h12 : i_ ∈ List.range 10 := List.mem_range.2 hi12
        simp only [List.range, List.range.loop, List.mem_cons, List.not_mem_nil, or_false] at h12
        obtain ⟨f, rfl, hcm, hf⟩ := hj.opened [17, 18, 19, 20, 21, 22, 23, 24, 25, 26] (by kernel_rfl)
        replace hcm : Below wr.heap.size wr w9 := hcm
        rcases h12 with rfl | rfl | rfl | rfl | rfl | rfl | rfl | rfl | rfl | rfl
        · refine GJ.op hj (by kernel_rfl) hr rfl [17, 18, 19, 20, 21, 22, 23, 24, 25, 26] (by kernel_rfl) (fun K hK => ?_)
          simp only [Act.put, List.foldl_cons, List.foldl_nil, List.setIfInBounds_toArray, List.set_cons_zero, List.set_cons_succ] at hK ⊢
          clear hj hf
          go_simp
          exact hK _ _ (fun k v _ _ h => h.keep (Below.refl _ _)) (fun t ht => SJ.of (.eq (.slice (some ⟨ba, oa, none⟩) ra.length c)) rfl rfl) (hcm.trans ((Below.refl _ _).mono hcm.size))
        · refine GJ.op hj (by kernel_rfl) hr rfl [17, 18, 19, 20, 21, 22, 23, 24, 25, 26] (by kernel_rfl) (fun K hK => ?_)
          simp only [Act.put, List.foldl_cons, List.foldl_nil, List.setIfInBounds_toArray, List.set_cons_zero, List.set_cons_succ] at hK ⊢
          clear hj hf
          go_simp
          exact hK _ _ (fun k v _ _ h => h.keep (Below.refl _ _)) (fun t ht => SJ.of (.eq (.int .i64 (i : Int))) rfl rfl) (hcm.trans ((Below.refl _ _).mono hcm.size))
        · have e1 : f 17 = .slice (some ⟨ba, oa, none⟩) ra.length c := hf 0 _ _ rfl rfl (up_dep hr (by kernel_rfl))
          have e2 : f 18 = .int .i64 (i : Int) := hf 1 _ _ rfl rfl (up_dep hr (by kernel_rfl))
          have klt := Nat.lt_of_lt_of_le lba hcm.size
          refine GJ.op hj (by kernel_rfl) hr rfl [17, 18, 19, 20, 21, 22, 23, 24, 25, 26] (by kernel_rfl) (fun K hK => ?_)
          simp only [Act.put, List.foldl_cons, List.foldl_nil, List.setIfInBounds_toArray, List.set_cons_zero, List.set_cons_succ] at hK ⊢
          clear hj hf
          rw [e1, e2] at hK ⊢
          clear e1 e2
          go_simp
          exact hK _ _ (fun k v _ _ h => h.keep (Below.refl _ _)) (fun t ht => SJ.of (.eq (.pointer (some ⟨ba, oa + i * 7, none⟩))) rfl rfl) (hcm.trans ((Below.refl _ _).mono hcm.size))
        · have e1 : f 19 = .pointer (some ⟨ba, oa + i * 7, none⟩) := hf 2 _ _ rfl rfl (up_dep hr (by kernel_rfl))
          have kx0 := keep_cell hcm a0
          have kx1 := keep_cell hcm a1
          have kx2 := keep_cell hcm a2
          have kx3 := keep_cell hcm a3
          have kx4 := keep_cell hcm a4
          have kx5 := keep_cell hcm a5
          have kx6 := keep_cell hcm a6
          have klt := Nat.lt_of_lt_of_le lba hcm.size
          refine GJ.op hj (by kernel_rfl) hr rfl [17, 18, 19, 20, 21, 22, 23, 24, 25, 26] (by kernel_rfl) (fun K hK => ?_)
          simp only [Act.put, List.foldl_cons, List.foldl_nil, List.setIfInBounds_toArray, List.set_cons_zero, List.set_cons_succ] at hK ⊢
          clear hj hf
          rw [e1] at hK ⊢
          clear e1
          go_simp
          exact hK _ _ (fun k v _ _ h => h.keep (Below.refl _ _)) (fun t ht => SJ.of (.eq (.agg #[.int .u8 (x.kind : Int), .int .i64 x.place, .int .i64 x.id, .int .i64 x.lease, .int .u8 (x.ans : Int), .slice pS x.steps.length cS, .slice pL x.after.length cL])) rfl rfl) (hcm.trans ((Below.refl _ _).mono hcm.size))
        · refine GJ.op hj (by kernel_rfl) hr rfl [17, 18, 19, 20, 21, 22, 23, 24, 25, 26] (by kernel_rfl) (fun K hK => ?_)
          simp only [Act.put, List.foldl_cons, List.foldl_nil, List.setIfInBounds_toArray, List.set_cons_zero, List.set_cons_succ] at hK ⊢
          clear hj hf
          go_simp
          exact hK _ _ (fun k v _ _ h => h.keep (Below.refl _ _)) (fun t ht => SJ.of (.eq (.slice (some ⟨bb, ob, none⟩) rb.length d)) rfl rfl) (hcm.trans ((Below.refl _ _).mono hcm.size))
        · refine GJ.op hj (by kernel_rfl) hr rfl [17, 18, 19, 20, 21, 22, 23, 24, 25, 26] (by kernel_rfl) (fun K hK => ?_)
          simp only [Act.put, List.foldl_cons, List.foldl_nil, List.setIfInBounds_toArray, List.set_cons_zero, List.set_cons_succ] at hK ⊢
          clear hj hf
          go_simp
          exact hK _ _ (fun k v _ _ h => h.keep (Below.refl _ _)) (fun t ht => SJ.of (.eq (.int .i64 (i : Int))) rfl rfl) (hcm.trans ((Below.refl _ _).mono hcm.size))
        · have e1 : f 21 = .slice (some ⟨bb, ob, none⟩) rb.length d := hf 4 _ _ rfl rfl (up_dep hr (by kernel_rfl))
          have e2 : f 22 = .int .i64 (i : Int) := hf 5 _ _ rfl rfl (up_dep hr (by kernel_rfl))
          have klt := Nat.lt_of_lt_of_le lbb hcm.size
          refine GJ.op hj (by kernel_rfl) hr rfl [17, 18, 19, 20, 21, 22, 23, 24, 25, 26] (by kernel_rfl) (fun K hK => ?_)
          simp only [Act.put, List.foldl_cons, List.foldl_nil, List.setIfInBounds_toArray, List.set_cons_zero, List.set_cons_succ] at hK ⊢
          clear hj hf
          rw [e1, e2] at hK ⊢
          clear e1 e2
          go_simp
          exact hK _ _ (fun k v _ _ h => h.keep (Below.refl _ _)) (fun t ht => SJ.of (.eq (.pointer (some ⟨bb, ob + i * 7, none⟩))) rfl rfl) (hcm.trans ((Below.refl _ _).mono hcm.size))
        · have e1 : f 23 = .pointer (some ⟨bb, ob + i * 7, none⟩) := hf 6 _ _ rfl rfl (up_dep hr (by kernel_rfl))
          have kx0 := keep_cell hcm b0
          have kx1 := keep_cell hcm b1
          have kx2 := keep_cell hcm b2
          have kx3 := keep_cell hcm b3
          have kx4 := keep_cell hcm b4
          have kx5 := keep_cell hcm b5
          have kx6 := keep_cell hcm b6
          have klt := Nat.lt_of_lt_of_le lbb hcm.size
          refine GJ.op hj (by kernel_rfl) hr rfl [17, 18, 19, 20, 21, 22, 23, 24, 25, 26] (by kernel_rfl) (fun K hK => ?_)
          simp only [Act.put, List.foldl_cons, List.foldl_nil, List.setIfInBounds_toArray, List.set_cons_zero, List.set_cons_succ] at hK ⊢
          clear hj hf
          rw [e1] at hK ⊢
          clear e1
          go_simp
          exact hK _ _ (fun k v _ _ h => h.keep (Below.refl _ _)) (fun t ht => SJ.of (.eq (.agg #[.int .u8 (y.kind : Int), .int .i64 y.place, .int .i64 y.id, .int .i64 y.lease, .int .u8 (y.ans : Int), .slice qS y.steps.length dS, .slice qL y.after.length dL])) rfl rfl) (hcm.trans ((Below.refl _ _).mono hcm.size))
        · have e1 : f 20 = .agg #[.int .u8 (x.kind : Int), .int .i64 x.place, .int .i64 x.id, .int .i64 x.lease, .int .u8 (x.ans : Int), .slice pS x.steps.length cS, .slice pL x.after.length cL] := hf 3 _ _ rfl rfl (up_dep hr (by kernel_rfl))
          have e2 : f 24 = .agg #[.int .u8 (y.kind : Int), .int .i64 y.place, .int .i64 y.id, .int .i64 y.lease, .int .u8 (y.ans : Int), .slice qS y.steps.length dS, .slice qL y.after.length dL] := hf 7 _ _ rfl rfl (up_dep hr (by kernel_rfl))
          refine GJ.op hj (by kernel_rfl) hr rfl [17, 18, 19, 20, 21, 22, 23, 24, 25, 26] (by kernel_rfl) (fun K hK => ?_)
          simp only [Act.put, List.foldl_cons, List.foldl_nil, List.setIfInBounds_toArray, List.set_cons_zero, List.set_cons_succ] at hK ⊢
          clear hj hf
          rw [e1, e2] at hK ⊢
          clear e1 e2
          go_simp
          refine (rSame_c w9 (.agg #[.int .u8 (x.kind : Int), .int .i64 x.place, .int .i64 x.id, .int .i64 x.lease, .int .u8 (x.ans : Int), .slice pS x.steps.length cS, .slice pL x.after.length cL]) (.agg #[.int .u8 (y.kind : Int), .int .i64 y.place, .int .i64 y.id, .int .i64 y.lease, .int .u8 (y.ans : Int), .slice qS y.steps.length dS, .slice qL y.after.length dL]) x y (HXI.out.after hcm) (HYI.out.after hcm)).mono ?_
          rw [HPE.out]
          rintro e w11 ⟨rfl, hb11⟩
          exact hK _ _ (fun k v _ _ h => h.keep hb11) (fun t ht => SJ.of (.eq (.bool pe)) rfl rfl) (hcm.trans (hb11.mono hcm.size))
        · have e1 : f 25 = .bool pe := hf 8 _ _ rfl rfl (up_dep hr (by kernel_rfl))
          refine GJ.op hj (by kernel_rfl) hr rfl [17, 18, 19, 20, 21, 22, 23, 24, 25, 26] (by kernel_rfl) (fun K hK => ?_)
          simp only [Act.put, List.foldl_cons, List.foldl_nil, List.setIfInBounds_toArray, List.set_cons_zero, List.set_cons_succ] at hK ⊢
          clear hj hf
          rw [e1] at hK ⊢
          clear e1
          go_simp
          exact hK _ _ (fun k v _ _ h => h.keep (Below.refl _ _)) (fun t ht => SJ.of (.eq (.bool (!pe))) rfl rfl) (hcm.trans ((Below.refl _ _).mono hcm.size))
      · intro listed a_ w10 hr hj
        have hu : ∀ k, k < 10 → up listed k := fun k hk => all_up (by kernel_rfl) hj.lsize hr k hk
        obtain ⟨f, rfl, hcm, hf⟩ := hj.opened [17, 18, 19, 20, 21, 22, 23, 24, 25, 26] (by kernel_rfl)
        replace hcm : Below wr.heap.size wr w10 := hcm
        have HLast : f 26 = .bool (!pe) := hf 9 _ _ rfl rfl (hu 9 (by omega))
        have HBR := Lib.hid hcm
        clear hf hj hr hu hcm
        simp only [List.foldl_cons, List.foldl_nil, List.setIfInBounds_toArray, List.set_cons_zero, List.set_cons_succ]
        rw [HLast]
        clear HLast
        generalize f 17 = g17
        generalize f 18 = g18
        generalize f 19 = g19
        generalize f 20 = g20
        generalize f 21 = g21
        generalize f 22 = g22
        generalize f 23 = g23
        generalize f 24 = g24
        generalize f 25 = g25
        clear f
        cases pe with
        | true =>
          go_wp2_with fail
          go_roundg (ra.length - (i + 1))
          case measure => omega
          case rel =>
            refine ⟨i + 1, by omega, rfl, by go_num, fun j hj => ?_, hbl.out.trans (HBR.out.mono hbl.out.size)⟩
            rcases Nat.lt_or_ge j i with h | h
            · exact heq.out j h
            · obtain rfl : j = i := by omega
              rw [HXL.out, HYL.out]
              exact of_decide_eq_true HPE.out
        | false =>
          have HD : Hid (decide (ra = rb) = false) := decide_eq_false (fun e => by
            have h1 := of_decide_eq_false HPE.out
            rw [← HXL.out, ← HYL.out] at h1
            exact h1 (by rw [e]))
          go_wp2_with fail
          go_ret
          exact ⟨by rw [HD.out]; rfl, hbl.out.trans (HBR.out.mono hbl.out.size)⟩
    · obtain rfl : i = ra.length := by omega
      have HD : Hid (decide (ra = rb) = true) := by
        refine decide_eq_true ?_
        rcases eq_or_differ Rec.none ra rb HL.out with e | ⟨j, h1, h2, _⟩
        · exact e
        · exact absurd (heq.out j h1) h2
      clear heq
      go_wp2_with fail
      go_ret
      exact ⟨by rw [HD.out]; rfl, hbl.out⟩
end Go.Proofs.YtpaoeeamlinaaaaGreatDoor
